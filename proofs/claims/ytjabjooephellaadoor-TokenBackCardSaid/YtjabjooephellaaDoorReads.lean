/- What is joined is read as the same tokens; what is read may be. Over lists of bytes: no program in sight. -/
import Derived.Test.YtjabjooephellaaDoorJoin
namespace Go.Proofs.YtjabjooephellaaDoor.Lx
set_option linter.unusedVariables false
set_option linter.unusedSimpArgs false
open Go.RowKit Go.Proofs.YtjabjooephellaaDoor.XB Go.Proofs.YtjabjooephellaaDoorW.PrintWords Go.Proofs.YtjabjooephellaaDoorW.PrintLast Go.Proofs.YtjabjooephellaaDoorW.PrintMore

-- numbers
def In64 (n : Int) : Prop := -9223372036854775808 ≤ n ∧ n ≤ 9223372036854775807
theorem in64_wf {n : Int} (h : (Lit.int .i64 n).wf = true) : In64 n := by
  have := h
  simp [Lit.wf, IntKind.min, IntKind.max, IntKind.signed, IntKind.bits] at this
  unfold In64
  omega
theorem in64_wrap (x : Int) : In64 (wrap64 x) := by unfold In64 wrap64; omega
theorem in64_or (x y : Int) : In64 (Go.bits .or .i64 x y) := by
  simp only [bits]
  rw [IntKind.wrap_i64]
  unfold In64
  omega
theorem charL_in : ∀ (r : List UInt8) (k : Nat) (n kd n' : Int) (t : List UInt8) (m : Nat), In64 n → charL r k n = .ok kd n' t m → In64 n' := by
  intro r
  induction r with
  | nil => intro k n kd n' t m _ h; simp [charL] at h
  | cons c r ih =>
    intro k n kd n' t m hn h
    unfold charL at h
    split at h
    · split at h
      · cases h
      · cases h; exact hn
    · split at h
      · cases h
      · split at h
        · cases h
        · exact ih _ _ _ _ _ _ (in64_or _ _) h
theorem wordL_in (s : ByteArray) (base low : Int) : ∀ (d : Nat) (i : Int) (over : Bool) (n : Int), In64 (wordL s 0 base low d i over n).1 := by
  intro d
  induction d with
  | zero =>
    intro i over n
    unfold wordL
    split
    · unfold In64; simp
    · exact in64_wrap n
  | succ d ih =>
    intro i over n
    unfold wordL
    split
    · split
      · unfold In64; simp
      · exact ih _ _ _
    · split
      · unfold In64; simp
      · exact ih _ _ _
theorem wordOf_in (s : ByteArray) : In64 (wordOf s 0).1 := by
  unfold wordOf
  split
  · unfold In64; simp
  · exact wordL_in s _ _ _ _ _ _
theorem scanL_in {l : List UInt8} {kd n : Int} {t : List UInt8} {m : Nat} (h : scanL l = .ok kd n t m) : In64 n := by
  rcases l with _ | ⟨c, r⟩
  · cases h
  · unfold scanL at h
    simp only at h
    split at h
    · exact charL_in _ _ _ _ _ _ _ (by unfold In64; simp) h
    · split at h
      · split at h
        · cases h; exact wordOf_in _
        · cases h
      · cases h
-- the digits' numbers
def hexV : Nat → Int → List Int → List Int
  | 0, _, acc => acc
  | k + 1, u, acc => if 16 ≤ u then hexV k (u / 16) (u % 16 :: acc) else u :: acc
theorem hexL_V : ∀ (k : Nat) (u : Int) (acc : List Int), hexL k u (acc.map dg) = (hexV k u acc).map dg
  | 0, _, _ => rfl
  | k + 1, u, acc => by
    rw [hexL, hexV]
    by_cases c : 16 ≤ u
    · rw [if_pos c, if_pos c]
      exact hexL_V k (u / 16) (u % 16 :: acc)
    · rw [if_neg c, if_neg c]
      rfl
theorem hexV_dig : ∀ (k : Nat) (u : Int) (acc : List Int), 0 ≤ u → (∀ v ∈ acc, 0 ≤ v ∧ v < 16) → ∀ v ∈ hexV k u acc, 0 ≤ v ∧ v < 16
  | 0, _, _, _, h => h
  | k + 1, u, acc, h0, h => by
    rw [hexV]
    by_cases c : 16 ≤ u
    · rw [if_pos c]
      refine hexV_dig k (u / 16) _ (by omega) (fun v hv => ?_)
      rcases List.mem_cons.1 hv with q | q
      · rw [q]; omega
      · exact h v q
    · rw [if_neg c]
      intro v hv
      rcases List.mem_cons.1 hv with q | q
      · rw [q]; omega
      · exact h v q
theorem hexV_ne (k : Nat) (u : Int) (acc : List Int) (h : 1 ≤ k ∨ acc ≠ []) : hexV k u acc ≠ [] := by
  induction k generalizing u acc with
  | zero =>
    rcases h with q | q
    · omega
    · exact q
  | succ k ih =>
    rw [hexV]
    split
    · exact ih _ _ (.inr (by simp))
    · simp
def horner (n : Int) : List Int → Int
  | [] => n
  | v :: r => horner (n * 16 + v) r
theorem horner_hexV : ∀ (k : Nat) (u : Int) (acc : List Int), 0 ≤ u → u < 16 ^ (k + 1) → horner 0 (hexV (k + 1) u acc) = horner u acc
  | 0, u, acc, h0, h1 => by
    simp at h1
    rw [hexV, if_neg (by omega), horner]
    congr 1; omega
  | k + 1, u, acc, h0, h1 => by
    rw [hexV]
    by_cases c : 16 ≤ u
    · rw [if_pos c, horner_hexV k (u / 16) _ (by omega) (by rw [Int.pow_succ] at h1; omega), horner]
      congr 1; omega
    · rw [if_neg c, horner]
      congr 1; omega
theorem horner_ge : ∀ (vs : List Int) (n : Int), 0 ≤ n → (∀ v ∈ vs, 0 ≤ v) → n ≤ horner n vs
  | [], n, _, _ => Int.le_refl _
  | v :: r, n, h0, h => by
    have hv := h v List.mem_cons_self
    have z := horner_ge r (n * 16 + v) (by omega) (fun x hx => h x (List.mem_cons_of_mem _ hx))
    rw [horner]
    omega
theorem dig_facts : ∀ n : Nat, n < 16 → letterB (UInt8.ofNat (dg (n : Int)).toNat) = true ∧ ((UInt8.ofNat (dg (n : Int)).toNat).toNat : Int) = dg (n : Int) ∧ litValue (dg (n : Int)) = (n : Int) ∧ dg (n : Int) ≠ 95 := by decide +kernel
theorem dig_fact (v : Int) (h0 : 0 ≤ v) (h1 : v < 16) : letterB (UInt8.ofNat (dg v).toNat) = true ∧ ((UInt8.ofNat (dg v).toNat).toNat : Int) = dg v ∧ litValue (dg v) = v ∧ dg v ≠ 95 := by
  obtain ⟨n, rfl⟩ := Int.eq_ofNat_of_zero_le h0
  exact dig_facts n (by omega)
def letters (vs : List Int) : List UInt8 := vs.map fun v => UInt8.ofNat (dg v).toNat
theorem wordL_hex (s : ByteArray) (low : Int) : ∀ (vs : List Int) (i : Nat) (n : Int), (L s).drop i = letters vs → (∀ v ∈ vs, 0 ≤ v ∧ v < 16) → 0 ≤ n → horner n vs < 18446744073709551616 →
    wordL s 0 16 low vs.length (i : Int) false n = (wrap64 (horner n vs), 0, 0) := by
  intro vs
  induction vs with
  | nil => intro i n _ _ _ _; rfl
  | cons v r ih =>
    intro i n hd hv hn hb
    obtain ⟨v0, v1⟩ := hv v List.mem_cons_self
    obtain ⟨d1, d2, d3, d4⟩ := dig_fact v v0 v1
    have hd' : (L s).drop i = UInt8.ofNat (dg v).toNat :: letters r := hd
    have hbt := (bt_drop hd').1
    rw [d2] at hbt
    have hg := horner_ge r (n * 16 + v) (by omega) (fun x hx => (hv x (List.mem_cons_of_mem _ hx)).1)
    rw [horner] at hb ⊢
    have e1 : n * 16 / 18446744073709551616 = 0 := Int.ediv_eq_zero_of_lt (by omega) (by omega)
    have e2 : n * 16 % 18446744073709551616 = n * 16 := Int.emod_eq_of_lt (by omega) (by omega)
    have e3 : (n * 16 + v) / 18446744073709551616 = 0 := Int.ediv_eq_zero_of_lt (by omega) (by omega)
    have e4 : (n * 16 + v) % 18446744073709551616 = n * 16 + v := Int.emod_eq_of_lt (by omega) (by omega)
    have z := ih (i + 1) (n * 16 + v) (drop_succ hd') (fun x hx => hv x (List.mem_cons_of_mem _ hx)) (by omega) hb
    rw [Int.natCast_succ] at z
    rw [List.length_cons, wordL, hbt, if_neg d4, d3, if_neg (by omega), e1, e2, e3, e4]
    exact z
theorem takeWhile_self (p : UInt8 → Bool) : ∀ l : List UInt8, l.all p = true → l.takeWhile p = l
  | [], _ => rfl
  | a :: r, h => by
    simp only [List.all_cons, Bool.and_eq_true] at h
    rw [List.takeWhile_cons, if_pos h.1, takeWhile_self p r h.2]
theorem num_letters (u : Int) : L ((⟨#[48, 120]⟩ : ByteArray) ++ hexU u) = 48 :: 120 :: letters (hexV 16 u []) := by
  have e : hexL 16 u [] = (hexV 16 u []).map dg := hexL_V 16 u []
  rw [L_append]
  unfold hexU
  rw [L, L, strOfNums_data, e, letters, List.map_map]
  rfl
theorem num_scan (n : Int) (hn : In64 n) : scanL (48 :: 120 :: letters (hexV 16 (IntKind.u64.wrap n) [])) = .ok 2 n [] (letters (hexV 16 (IntKind.u64.wrap n) [])).length.succ.succ := by
  have hu0 : 0 ≤ IntKind.u64.wrap n := by rw [IntKind.wrap_u64]; omega
  have hu1 : IntKind.u64.wrap n < 18446744073709551616 := by rw [IntKind.wrap_u64]; omega
  have hv := hexV_dig 16 (IntKind.u64.wrap n) [] hu0 (by simp)
  have hne := hexV_ne 16 (IntKind.u64.wrap n) [] (.inl (by omega))
  have hh := horner_hexV 15 (IntKind.u64.wrap n) [] hu0 (by simpa using hu1)
  have hw : wrap64 (IntKind.u64.wrap n) = n := by
    obtain ⟨a, b⟩ := hn
    rw [IntKind.wrap_u64]; unfold wrap64; omega
  generalize hexV 16 (IntKind.u64.wrap n) [] = vs at *
  have hlen : 0 < vs.length := List.length_pos_iff.2 hne
  have hll : (letters vs).length = vs.length := by simp [letters]
  have hall : (letters vs).all letterB = true := by
    rw [List.all_eq_true]
    intro c hc
    obtain ⟨v, h1, rfl⟩ := List.mem_map.1 hc
    exact (dig_fact v (hv v h1).1 (hv v h1).2).1
  have htw : (48 :: 120 :: letters vs).takeWhile letterB = 48 :: 120 :: letters vs := takeWhile_self _ _ (by
    rw [List.all_cons, List.all_cons, hall]
    decide +kernel)
  generalize hs : B (48 :: 120 :: letters vs) = s
  have hL : L s = 48 :: 120 :: letters vs := by rw [← hs, L_B]
  have hz : s.size = vs.length + 2 := by rw [← L_length, hL]; simp [hll]
  have hwo : wordOf s 0 = (n, 0, 0) := by
    have b0 : bt s 0 = 48 := (bt_drop (s := s) (i := 0) (c := 48) (r := 120 :: letters vs) (by rw [hL]; rfl)).1
    have b1 : bt s 1 = 120 := (bt_drop (s := s) (i := 1) (c := 120) (r := letters vs) (by rw [hL]; rfl)).1
    have h2 : litTwo s 120 = true := by
      unfold litTwo
      rw [b0, b1, decide_eq_true (by omega)]
      decide +kernel
    have hsh : shapeOf s = (16, 2, (s.size : Int)) := by unfold shapeOf; rw [if_pos h2]
    unfold wordOf
    rw [hsh]
    simp only
    rw [if_neg (by omega), show ((s.size : Int) - 2).toNat = vs.length by omega]
    have z := wordL_hex s 2 vs 2 0 (by rw [hL]; rfl) hv (by omega) (by rw [hh]; exact hu1)
    rw [hh, horner, hw] at z
    exact z
  unfold scanL
  simp only
  rw [if_neg (by decide), if_pos (by decide +kernel), htw, List.take_length, hs, hwo, if_pos rfl, List.length_cons, List.length_cons]
-- a token's word is read as it
theorem first_not : ∀ n : Nat, n < 256 → firstB (UInt8.ofNat n) = true → n ≠ 59 ∧ n ≠ 32 ∧ n ≠ 9 ∧ n ≠ 34 := by decide +kernel
theorem firstB_not {c : UInt8} (h : firstB c = true) : c.toNat ≠ 59 ∧ c.toNat ≠ 32 ∧ c.toNat ≠ 9 ∧ c.toNat ≠ 34 := by
  have z := first_not c.toNat c.toNat_lt
  rw [UInt8.ofNat_toNat] at z
  exact z h
theorem signFrom_mem : ∀ (l : List ByteArray) (s : ByteArray), L (tokSignFrom l s) = [] ∨ tokSignFrom l s ∈ l
  | [], s => .inl rfl
  | x :: l, s => by
    unfold tokSignFrom
    split
    · exact .inr List.mem_cons_self
    · rcases signFrom_mem l s with q | q
      · exact .inl q
      · exact .inr (List.mem_cons_of_mem _ q)
def nxB : Nx → Int → Int → List UInt8 → Nat → Bool
  | .ok a b c d, e, f, g, h => a == e && (b == f && (c == g && d == h))
  | .bad _ _, _, _, _, _ => false
theorem nxB_eq {x : Nx} {e f : Int} {g : List UInt8} {h : Nat} (hx : nxB x e f g h = true) : x = .ok e f g h := by
  cases x with
  | ok a b c d =>
    simp only [nxB, Bool.and_eq_true, beq_iff_eq] at hx
    obtain ⟨rfl, rfl, rfl, rfl⟩ := hx
    rfl
  | bad _ _ => simp [nxB] at hx
theorem signs_read : (tokSigns.all fun s => nxB (nextL (L s)) 4 0 (L s) (L s).length && (decide (((L s).getD 0 0).toNat ≠ 59 ∧ ((L s).getD 0 0).toNat ≠ 32 ∧ ((L s).getD 0 0).toNat ≠ 9) && (L (tokSign s) == L s))) = true := by decide +kernel
theorem sign_read {s : ByteArray} (h : s ∈ tokSigns) : nextL (L s) = .ok 4 0 (L s) (L s).length ∧ (((L s).getD 0 0).toNat ≠ 59 ∧ ((L s).getD 0 0).toNat ≠ 32 ∧ ((L s).getD 0 0).toNat ≠ 9) ∧ L (tokSign s) = L s := by
  have z := List.all_eq_true.1 signs_read s h
  simp only [Bool.and_eq_true, beq_iff_eq] at z
  exact ⟨nxB_eq z.1, of_decide_eq_true z.2.1, z.2.2⟩
theorem text_word (w : List UInt8) (h : w.all textB = true) : textL (34 :: (w ++ [34])) = .ok 3 0 w (w.length + 2) := by
  have h34 : textB 34 = false := by decide +kernel
  have htw : (w ++ [34]).takeWhile textB = w := by
    rw [List.takeWhile_append_of_pos (fun c hc => List.all_eq_true.1 h c hc), List.takeWhile_cons, if_neg (by rw [h34]; decide), List.append_nil]
  have e : textL (34 :: (w ++ [34])) = if 1 + ((w ++ [34]).takeWhile textB).length = (34 :: (w ++ [34])).length then Nx.bad 4 ((1 + ((w ++ [34]).takeWhile textB).length : Nat) : Int)
    else if (34 :: (w ++ [34])).getD (1 + ((w ++ [34]).takeWhile textB).length) 0 = 34 then Nx.ok 3 0 (((34 :: (w ++ [34])).take (1 + ((w ++ [34]).takeWhile textB).length)).drop 1) (1 + ((w ++ [34]).takeWhile textB).length + 1)
    else Nx.bad 4 ((1 + ((w ++ [34]).takeWhile textB).length : Nat) : Int) := rfl
  rw [e, htw, if_neg (by simp; omega), if_pos (by rw [Nat.add_comm 1, List.getD_cons_succ]; simp)]
  congr 1
  · rw [Nat.add_comm 1, List.take_succ_cons, List.drop_succ_cons, List.drop_zero]
    simp
  · omega
/-- A token's word, read: the token; its first byte is no blank and begins no remark. -/
theorem word_next (t : Tk) (hm : mayT t = true) (hn : In64 t.f1) : ∃ c r, L (wordT t) = c :: r ∧ c.toNat ≠ 59 ∧ c.toNat ≠ 32 ∧ c.toNat ≠ 9 ∧ nextL (c :: r) = .ok t.f0 t.f1 (L t.f2) (r.length + 1) := by
  unfold mayT mayB at hm
  by_cases k1 : t.f0 = 1
  · rw [if_pos k1] at hm
    by_cases z : t.f1 = 0
    · rw [if_pos z] at hm
      have ew : wordT t = t.f2 := by unfold wordT; rw [if_neg (by omega), if_neg (by omega)]
      rw [ew, k1, z]
      unfold nameB at hm
      simp only [Bool.and_eq_true, decide_eq_true_eq] at hm
      obtain ⟨h1, h2, h3, h4⟩ := hm
      match hl : L t.f2 with
      | [] => rw [hl] at h1; simp at h1
      | c :: r =>
        rw [hl] at h2 h3 h4
        simp only [List.getD_cons_zero] at h3
        obtain ⟨n1, n2, n3, n4⟩ := firstB_not h3
        refine ⟨c, r, rfl, n1, n2, n3, ?_⟩
        unfold nextL
        simp only
        rw [if_pos h3, takeWhile_self _ _ h4, if_neg (by omega), List.take_length, List.length_cons]
    · rw [if_neg z] at hm; cases hm
  · rw [if_neg k1] at hm
    by_cases k2 : t.f0 = 2
    · rw [if_pos k2] at hm
      have hm2 : L t.f2 = [] := by simpa using hm
      have ew : wordT t = (⟨#[48, 120]⟩ : ByteArray) ++ hexU (IntKind.u64.wrap t.f1) := by unfold wordT; rw [if_pos k2]
      rw [ew, num_letters, hm2, k2]
      refine ⟨48, _, rfl, by decide, by decide, by decide, ?_⟩
      have z := num_scan t.f1 hn
      unfold nextL
      simp only
      rw [if_neg (by decide +kernel), if_neg (by decide), if_pos (.inl (by decide +kernel)), z, List.length_cons]
    · rw [if_neg k2] at hm
      by_cases k3 : t.f0 = 3
      · rw [if_pos k3] at hm
        by_cases z : t.f1 = 0
        · rw [if_pos z] at hm
          have ew : L (wordT t) = 34 :: (L t.f2 ++ [34]) := by
            unfold wordT; rw [if_neg k2, if_pos k3, L_append, L_append]; rfl
          rw [ew, k3, z]
          refine ⟨34, _, rfl, by decide, by decide, by decide, ?_⟩
          have y := text_word (L t.f2) hm
          unfold nextL
          simp only
          rw [if_neg (by decide +kernel), if_pos (by decide), y]
          simp
        · rw [if_neg z] at hm; cases hm
      · rw [if_neg k3] at hm
        by_cases k4 : t.f0 = 4
        · rw [if_pos k4] at hm
          by_cases z : t.f1 = 0
          · rw [if_pos z] at hm
            by_cases y : L t.f2 = []
            · rw [if_pos y] at hm; cases hm
            · rw [if_neg y, B_L] at hm
              have e : L (tokSign t.f2) = L t.f2 := by simpa using hm
              have e2 : tokSign t.f2 = t.f2 := L_inj e
              have hmem : t.f2 ∈ tokSigns := by
                rcases signFrom_mem tokSigns t.f2 with q | q
                · exact absurd ((congrArg L e2).symm.trans q) y
                · have e3 : tokSignFrom tokSigns t.f2 = t.f2 := e2
                  rw [e3] at q; exact q
              obtain ⟨g1, ⟨g2, g3, g4⟩, _⟩ := sign_read hmem
              have ew : wordT t = t.f2 := by unfold wordT; rw [if_neg k2, if_neg k3]
              rw [ew, k4, z]
              match hl : L t.f2 with
              | [] => exact absurd hl y
              | c :: r =>
                rw [hl] at g1 g2 g3 g4
                exact ⟨c, r, rfl, g2, g3, g4, g1⟩
          · rw [if_neg z] at hm; cases hm
        · rw [if_neg k4] at hm; cases hm
-- what is joined
def joinedL : Bool → List Tk → List UInt8
  | _, [] => []
  | b, t :: r => (if b = true then [32] else []) ++ (L (wordT t) ++ joinedL true r)
theorem joinT_ok : ∀ (r : List Tk) (b : Bool) (acc : List UInt8), acc.length ≤ 1000 → (joinT b acc r).2 = 0 → (joinT b acc r).1 = B (acc ++ joinedL b r) ∧ (acc ++ joinedL b r).length ≤ 1000
  | [], b, acc, ha, _ => by simp [joinT, joinedL]; exact ha
  | t :: r, b, acc, ha, h => by
    have ee : (if b = true then acc ++ [32] else acc) = acc ++ (if b = true then [32] else []) := by cases b <;> simp
    rw [joinT, ee] at h ⊢
    by_cases c : 1000 < (acc ++ (if b = true then [32] else []) ++ L (wordT t)).length
    · rw [if_pos c] at h; simp at h
    · rw [if_neg c] at h ⊢
      have z := joinT_ok r true _ (by omega) h
      have e2 : acc ++ joinedL b (t :: r) = acc ++ (if b = true then [32] else []) ++ L (wordT t) ++ joinedL true r := by
        rw [joinedL]; simp only [List.append_assoc]
      rw [e2]
      exact z
theorem joinT_err : ∀ (r : List Tk) (b : Bool) (acc : List UInt8), (joinT b acc r).2 = 0 ∨ (joinT b acc r).2 = 3
  | [], b, acc => .inl rfl
  | t :: r, b, acc => by
    rw [joinT]
    generalize (if b = true then acc ++ [32] else acc) ++ L (wordT t) = a2
    by_cases c : 1000 < a2.length
    · rw [if_pos c]; exact .inr rfl
    · rw [if_neg c]; exact joinT_err r true a2
theorem stop_joined (r : List Tk) : Stop (joinedL true r) := by
  intro d q h
  match r with
  | [] => cases h
  | t :: r => rw [joinedL, if_pos rfl] at h; injection h with h _; exact .inl h.symm
/-- Tokens alike but for where they stand. -/
def AlikeT : List Tk → List Tk → Prop
  | [], [] => True
  | a :: xs, b :: ys => (a.f0 = b.f0 ∧ a.f1 = b.f1 ∧ a.f2 = b.f2) ∧ AlikeT xs ys
  | _, _ => False
theorem AlikeT.len : ∀ {a b : List Tk}, AlikeT a b → a.length = b.length
  | [], [], _ => rfl
  | a :: xs, b :: ys, h => by rw [List.length_cons, List.length_cons, AlikeT.len h.2]
  | [], _ :: _, h => h.elim
  | _ :: _, [], h => h.elim
theorem AlikeT.at : ∀ {a b : List Tk}, AlikeT a b → ∀ i, i < a.length → (a.getD i z37).f0 = (b.getD i z37).f0 ∧ (a.getD i z37).f1 = (b.getD i z37).f1 ∧ (a.getD i z37).f2 = (b.getD i z37).f2
  | [], [], _, i, hi => by simp at hi
  | a :: xs, b :: ys, h, 0, _ => by simpa using h.1
  | a :: xs, b :: ys, h, i + 1, hi => by
    have := AlikeT.at h.2 i (by simpa using hi)
    simpa using this
  | [], _ :: _, h, _, _ => h.elim
  | _ :: _, [], h, _, _ => h.elim
theorem lex_joined : ∀ (r : List Tk), (∀ t ∈ r, mayT t = true ∧ In64 t.f1) → ∀ (b : Bool) (f : Nat) (at_ : Int), (joinedL b r).length < f → ∃ m, lexL f (joinedL b r) at_ = (m, 0, 0) ∧ AlikeT m r
  | [], _, b, f, at_, _ => by
    refine ⟨[], ?_, trivial⟩
    rw [joinedL]
    cases f <;> rfl
  | t :: r, h, b, f, at_, hf => by
    have core : ∀ (f : Nat) (at_ : Int), (L (wordT t) ++ joinedL true r).length < f → ∃ m, lexL f (L (wordT t) ++ joinedL true r) at_ = (m, 0, 0) ∧ AlikeT m (t :: r) := by
      intro f at_ hf
      obtain ⟨h1, h2⟩ := h t List.mem_cons_self
      obtain ⟨c, q, hw, n1, n2, n3, hx⟩ := word_next t h1 h2
      have hx2 := nextL_append (stop_joined r) hx
      rw [hw] at hf ⊢
      obtain ⟨f, rfl⟩ : ∃ g, f = g + 1 := ⟨f - 1, by omega⟩
      have hd : (c :: q ++ joinedL true r).drop (q.length + 1) = joinedL true r := by
        have : (c :: q).length = q.length + 1 := rfl
        rw [← this, List.drop_left]
      obtain ⟨m, hm, ha⟩ := lex_joined r (fun x hx => h x (List.mem_cons_of_mem _ hx)) true f (at_ + ((q.length + 1 : Nat) : Int)) (by simp at hf; omega)
      refine ⟨⟨t.f0, t.f1, B (L t.f2), at_⟩ :: m, ?_, ⟨⟨rfl, rfl, B_L _⟩, ha⟩⟩
      rw [List.cons_append] at hx2 hd ⊢
      rw [lexL_cons, lexStep, if_neg n1, if_neg (by omega), hx2, lexTok, hd, hm, if_pos rfl]
    rw [joinedL] at hf ⊢
    cases b with
    | false => exact core f at_ hf
    | true =>
      rw [if_pos rfl] at hf ⊢
      obtain ⟨f, rfl⟩ : ∃ g, f = g + 1 := ⟨f - 1, by omega⟩
      obtain ⟨m, hm, ha⟩ := core f (at_ + 1) (by simp at hf ⊢; omega)
      refine ⟨m, ?_, ha⟩
      show lexL (f + 1) (32 :: (L (wordT t) ++ joinedL true r)) at_ = _
      rw [lexL_cons, lexStep, if_neg (by decide), if_pos (.inl (by decide)), hm]
theorem join_read (l : List Tk) (h : ∀ t ∈ l, In64 t.f1) (h0 : (joinOf l).2 = 0) : ∃ m, lexOf (joinOf l).1 = (m, 0, 0) ∧ AlikeT m l := by
  unfold joinOf at h0 ⊢
  by_cases c : l.all mayT = true
  · rw [if_pos c] at h0 ⊢
    obtain ⟨e, hl⟩ := joinT_ok l false [] (by simp) h0
    rw [List.nil_append] at e hl
    obtain ⟨m, hm, ha⟩ := lex_joined l (fun t ht => ⟨List.all_eq_true.1 c t ht, h t ht⟩) false ((joinedL false l).length + 1) 0 (by omega)
    refine ⟨m, ?_, ha⟩
    unfold lexOf
    rw [e, B_size, L_B, if_neg (by omega), hm]
  · rw [if_neg c] at h0; simp at h0
-- what is read may be
theorem all_take (p : UInt8 → Bool) : ∀ l : List UInt8, (l.takeWhile p).all p = true
  | [] => rfl
  | a :: r => by
    rw [List.takeWhile_cons]
    split
    · rename_i h; rw [List.all_cons, h, all_take p r]; rfl
    · rfl
theorem next_may {c : UInt8} {r : List UInt8} {kd n : Int} {t : List UInt8} {m : Nat} (h : nextL (c :: r) = .ok kd n t m) : mayB kd n t = true ∧ In64 n := by
  unfold nextL at h
  simp only at h
  have z64 : In64 0 := by unfold In64; simp
  split at h
  · rename_i hf
    split at h
    · cases h
    · rename_i hlen
      injection h with e1 e2 e3 e4
      subst e1; subst e2
      refine ⟨?_, z64⟩
      unfold mayB
      rw [if_pos rfl, if_pos rfl]
      have et : t = (c :: r).takeWhile moreB := by
        rw [← e3]
        conv => lhs; arg 2; rw [← List.takeWhile_append_dropWhile (p := moreB) (l := c :: r)]
        rw [List.take_left]
      have hmc : moreB c = true := by rw [moreB_eq, hf]; rfl
      have hl1 : 1 ≤ ((c :: r).takeWhile moreB).length := by rw [List.takeWhile_cons, if_pos hmc]; simp
      have hg0 : ((c :: r).takeWhile moreB).getD 0 0 = c := by rw [List.takeWhile_cons, if_pos hmc]; rfl
      unfold nameB
      rw [et, decide_eq_true hl1, decide_eq_true (by omega), hg0, hf, all_take]
      rfl
  · split at h
    · obtain ⟨e1, e2, e3, e4, e5⟩ := textL_ok h
      subst e1; subst e2
      refine ⟨?_, z64⟩
      unfold mayB
      rw [if_neg (by decide), if_neg (by decide), if_pos rfl, if_pos rfl, e4, all_take]
    · split at h
      · have hin := scanL_in h
        obtain ⟨e1, e2⟩ := scanL_ok h
        subst e1; subst e2
        refine ⟨?_, hin⟩
        unfold mayB
        rw [if_neg (by decide), if_pos rfl]
        rfl
      · split at h
        · cases h
        · rename_i hne
          injection h with e1 e2 e3 e4
          subst e1; subst e2
          refine ⟨?_, z64⟩
          unfold mayB
          rw [if_neg (by decide), if_neg (by decide), if_neg (by decide), if_pos rfl, if_pos rfl, ← e3, if_neg hne]
          unfold signL at hne ⊢
          rcases signFrom_mem tokSigns (B (c :: r)) with q | q
          · exact absurd q hne
          · have z := (sign_read q).2.2
            rw [B_L]
            exact beq_iff_eq.2 z
theorem lexL_may : ∀ (f : Nat) (l : List UInt8) (at_ : Int), (lexL f l at_).2.1 = 0 → (∀ t ∈ (lexL f l at_).1, mayT t = true ∧ In64 t.f1 ∧ t.f2.size ≤ l.length) ∧ (lexL f l at_).1.length ≤ l.length
  | 0, l, at_, _ => ⟨by intro t h; simp [lexL] at h, by simp [lexL]⟩
  | f + 1, [], at_, _ => ⟨by intro t h; simp [lexL] at h, by simp [lexL]⟩
  | f + 1, c :: r, at_, h => by
    rw [lexL_cons, lexStep] at h ⊢
    by_cases c1 : c.toNat = 59
    · rw [if_pos c1]; exact ⟨by intro t h; simp at h, by simp⟩
    · rw [if_neg c1] at h ⊢
      by_cases c2 : c.toNat = 32 ∨ c.toNat = 9
      · rw [if_pos c2] at h ⊢
        obtain ⟨g1, g2⟩ := lexL_may f r (at_ + 1) h
        exact ⟨fun t ht => ⟨(g1 t ht).1, (g1 t ht).2.1, by have := (g1 t ht).2.2; rw [List.length_cons]; omega⟩, by rw [List.length_cons]; omega⟩
      · rw [if_neg c2] at h ⊢
        cases hx : nextL (c :: r) with
        | bad e o =>
          rw [hx] at h
          have hg := nextL_good c r
          rw [hx] at hg
          exact absurd h hg.1
        | ok kd n t m =>
          rw [hx] at h
          obtain ⟨k1, k2⟩ := next_may hx
          obtain ⟨o1, o2, o3, o4⟩ := nextL_ok hx
          rw [lexTok] at h ⊢
          by_cases c3 : (lexL f ((c :: r).drop m) (at_ + (m : Int))).2.1 = 0
          · rw [if_pos c3]
            obtain ⟨g1, g2⟩ := lexL_may f ((c :: r).drop m) (at_ + (m : Int)) c3
            rw [List.length_drop, List.length_cons] at g2
            refine ⟨fun x hx => ?_, by simp only [List.length_cons]; omega⟩
            rcases List.mem_cons.1 hx with q | q
            · subst q
              refine ⟨?_, k2, ?_⟩
              · unfold mayT; simp only [L_B]; exact k1
              · simp only [B_size, List.length_cons]; omega
            · have z := g1 x q
              rw [List.length_drop] at z
              exact ⟨z.1, z.2.1, by omega⟩
          · rw [if_neg c3] at h; exact absurd h c3
theorem lexL_at : ∀ (f : Nat) (l : List UInt8) (at_ : Int), (lexL f l at_).2.1 ≠ 0 → at_ ≤ (lexL f l at_).2.2 ∧ (lexL f l at_).2.2 ≤ at_ + l.length
  | 0, l, at_, h => by simp [lexL] at h
  | f + 1, [], at_, h => by simp [lexL] at h
  | f + 1, c :: r, at_, h => by
    rw [lexL_cons, lexStep] at h ⊢
    by_cases c1 : c.toNat = 59
    · rw [if_pos c1] at h; simp at h
    · rw [if_neg c1] at h ⊢
      by_cases c2 : c.toNat = 32 ∨ c.toNat = 9
      · rw [if_pos c2] at h ⊢
        have z := lexL_at f r (at_ + 1) h
        rw [List.length_cons]; omega
      · rw [if_neg c2] at h ⊢
        cases hx : nextL (c :: r) with
        | bad e o =>
          have hg := nextL_good c r
          rw [hx] at hg
          rw [lexTok]
          simp only [List.length_cons]
          obtain ⟨_, g2, g3⟩ := hg
          omega
        | ok kd n t m =>
          rw [hx] at h
          obtain ⟨o1, o2, o3, o4⟩ := nextL_ok hx
          rw [lexTok] at h ⊢
          by_cases c3 : (lexL f ((c :: r).drop m) (at_ + (m : Int))).2.1 = 0
          · rw [if_pos c3] at h; simp at h
          · rw [if_neg c3]
            have z := lexL_at f ((c :: r).drop m) (at_ + (m : Int)) c3
            rw [List.length_drop, List.length_cons] at z
            simp only [List.length_cons]
            omega
end Go.Proofs.YtjabjooephellaaDoor.Lx
