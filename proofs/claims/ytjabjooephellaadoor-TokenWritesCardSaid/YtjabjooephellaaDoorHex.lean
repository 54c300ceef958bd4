/- A number's digits at base 16, by the program and by the document. No program in sight. -/
import Derived.Test.YtjabjooephellaaDoorLexA
import Derived.Test.YtjabjooephellaaDoorXx5
import Derived.Test.YtjabjooephellaaDoorXx8
import Derived.Laws.BitsLemmas
namespace Go.Proofs.YtjabjooephellaaDoor.Lx
set_option linter.unusedVariables false
set_option linter.unusedSimpArgs false
open Go.RowKit Go.Proofs.YtjabjooephellaaDoor.X Go.Proofs.YtjabjooephellaaDoorW.PrintWords Go.Proofs.YtjabjooephellaaDoorW.PrintLast Go.Proofs.YtjabjooephellaaDoorW.PrintMore

/-- The letter of a digit. -/
def dg (d : Int) : Int := bt hxD d
abbrev hxS : ByteArray := ⟨#[48, 49, 50, 51, 52, 53, 54, 55, 56, 57, 97, 98, 99, 100, 101, 102]⟩
theorem dig_all : ∀ n : Nat, n < 16 → hxS.extract n (n + 1) = strOfNums [dg (n : Int)] := by decide +kernel
theorem dig_at (d : Int) (h0 : 0 ≤ d) (h1 : d < 16) : hxS.extract d.toNat (d + 1).toNat = strOfNums [dg d] := by
  obtain ⟨n, rfl⟩ := Int.eq_ofNat_of_zero_le h0
  have := dig_all n (by omega)
  rw [Int.toNat_natCast]
  rw [show ((n : Int) + 1).toNat = n + 1 by omega]
  exact this
theorem nums_append (a b : List Int) : strOfNums a ++ strOfNums b = strOfNums (a ++ b) := L_inj (by rw [L_append]; simp [L, strOfNums_data])
theorem nums_nil : strOfNums [] = (⟨#[]⟩ : ByteArray) := rfl
/-- q digits, the highest first. -/
def digs : Nat → Int → List Int
  | 0, _ => []
  | q + 1, u => dg (u / 16 ^ q % 16) :: digs q u
theorem digs_length : ∀ (q : Nat) (u : Int), (digs q u).length = q
  | 0, _ => rfl
  | q + 1, u => by rw [digs, List.length_cons, digs_length q u]
theorem digs_last : ∀ (q : Nat) (u : Int), digs (q + 1) u = digs q (u / 16) ++ [dg (u % 16)]
  | 0, u => by simp [digs]
  | q + 1, u => by
    have z := digs_last q u
    rw [show digs (q + 1 + 1) u = dg (u / 16 ^ (q + 1) % 16) :: digs (q + 1) u from rfl, z]
    rw [show digs (q + 1) (u / 16) = dg (u / 16 / 16 ^ q % 16) :: digs q (u / 16) from rfl, List.cons_append]
    congr 3
    rw [Int.pow_succ', Int.ediv_ediv_of_nonneg (by decide)]
theorem hexL_digs : ∀ (q : Nat) (u : Int) (acc : List Int), 16 ^ q ≤ u → u < 16 ^ (q + 1) → hexL (q + 1) u acc = digs (q + 1) u ++ acc
  | 0, u, acc, h0, h1 => by
    simp at h0 h1
    rw [hexL, if_neg (by omega), digs, digs]
    simp only [Int.pow_zero, Int.ediv_one, List.cons_append, List.nil_append]
    rw [Int.emod_eq_of_lt (by omega) (by omega)]
    rfl
  | q + 1, u, acc, h0, h1 => by
    have hq : (1 : Int) ≤ 16 ^ q := by
      have := Int.pow_pos (n := 16) (m := q) (by decide)
      omega
    rw [Int.pow_succ] at h0
    rw [Int.pow_succ] at h1
    have h16 : 16 ≤ u := by omega
    rw [hexL, if_pos h16, hexL_digs q (u / 16) _ (by omega) (by omega), digs_last (q + 1) u, List.append_assoc]
    rfl
theorem hexL_len (q : Nat) (u : Int) (acc : List Int) : (hexL q u acc).length ≤ q + acc.length := hexL_size q u acc
theorem and15 (x : Int) : bits .and .i64 x 15 = x % 16 := by
  have e : ((15 : Int) % 18446744073709551616).toNat = 2 ^ 4 - 1 := by decide
  simp only [bits, BitVec.toNat_and, BitVec.toNat_ofInt]
  rw [show ((2 ^ IntKind.i64.bits : Nat) : Int) = 18446744073709551616 from by decide, e, Nat.and_two_pow_sub_one_eq_mod, IntKind.wrap_i64]
  omega
theorem tell_l (x2 : ByteArray) (hx2 : x2.size ≤ 100) : ∀ (q : Nat) (u : Int) (acc : List Int), 0 < u → u < 16 ^ q → q ≤ 16 → acc.length + q ≤ 1000 → ∀ k, q + 2 ≤ k →
    linotyperef02_tell.l0 k 16 x2 u (⟨#[]⟩ : ByteArray) (strOfNums acc) = some (x2 ++ strOfNums (hexL q u acc))
  | 0, u, acc, h0, h1, _, _, k, hk => by simp at h1; omega
  | q + 1, u, acc, h0, h1, hq, hl, k, hk => by
    obtain ⟨k, rfl⟩ : ∃ m, k = m + 1 := ⟨k - 1, by omega⟩
    have hp := pow16_le (q + 1) hq
    have hm0 := Int.emod_nonneg u (show (16 : Int) ≠ 0 by decide)
    have hm1 := Int.emod_lt_of_pos u (show (0 : Int) < 16 by decide)
    have et : Int.tmod u 16 = u % 16 := Int.tmod_eq_emod_of_nonneg (by omega)
    have ed : Int.tdiv u 16 = u / 16 := Int.tdiv_eq_ediv_of_nonneg (by omega)
    have ew : IntKind.u64.wrap (u % 16 + 1) = u % 16 + 1 := by rw [IntKind.wrap_u64]; omega
    have ew2 : IntKind.u64.wrap (u / 16) = u / 16 := by rw [IntKind.wrap_u64]; omega
    simp only [linotyperef02_tell.l0]
    rw [if_pos h0, if_neg (by decide), et, ed, ew, ew2, if_pos hm0, if_pos (by omega), if_pos (by omega), dig_at _ hm0 hm1, if_pos (by rw [strOfNums_size, strOfNums_size]; simp; omega), nums_append]
    rw [hexL]
    by_cases c : 16 ≤ u
    · rw [if_pos c]
      have h2 : u / 16 < 16 ^ q := by rw [Int.pow_succ] at h1; omega
      exact tell_l x2 hx2 q (u / 16) (dg (u % 16) :: acc) (by omega) h2 (by omega) (by rw [List.length_cons]; omega) k (by omega)
    · rw [if_neg c]
      obtain ⟨k, rfl⟩ : ∃ m, k = m + 1 := ⟨k - 1, by omega⟩
      have e0 : u / 16 = 0 := by omega
      have e1 : u % 16 = u := by omega
      rw [e0, e1]
      simp only [linotyperef02_tell.l0]
      have hne : ¬ ((strOfNums ([dg u] ++ acc)).toList = ([] : List UInt8)) := by
        rw [toList_L]
        simp [L, strOfNums_data]
      have hz : (strOfNums ([dg u] ++ acc)).size = 1 + acc.length := by rw [strOfNums_size]; simp; omega
      have e3 : (⟨#[]⟩ : ByteArray).size = 0 := rfl
      have e4 : (⟨#[]⟩ : ByteArray) ++ x2 = x2 := L_inj (by rw [L_append]; rfl)
      rw [if_neg (by decide), if_neg hne, if_pos (by omega), if_pos (by rw [ByteArray.size_append, hz]; omega), e4]
      rfl
theorem refHex_pos (n : Int) (h0 : 0 ≤ n) (h1 : n < 9223372036854775808) (k : Nat) (hk : 30 ≤ k) : linotyperef22_hex.f k n = some ((⟨#[48, 120]⟩ : ByteArray) ++ hexU n) := by
  obtain ⟨k, rfl⟩ : ∃ m, k = m + 1 := ⟨k - 1, by omega⟩
  have ew : IntKind.u64.wrap n = n := by rw [IntKind.wrap_u64]; omega
  unfold linotyperef22_hex.f linotyperef02_Hex.f linotyperef02_tell.f
  rw [if_pos (by omega), if_neg (by omega), ew]
  simp only [linotyperef02_tell.j0, ← nums_nil]
  by_cases c : 0 < n
  · have z := tell_l (⟨#[48, 120]⟩ : ByteArray) (by decide) 16 n [] c (by simp; omega) (by omega) (by simp) k (by omega)
    rw [nums_nil] at z ⊢
    rw [z]
    rfl
  · obtain rfl : n = 0 := by omega
    obtain ⟨k, rfl⟩ : ∃ m, k = m + 2 := ⟨k - 2, by omega⟩
    simp only [linotyperef02_tell.l0, toList_L]
    rfl
theorem refHex_l (n : Int) : ∀ (q : Nat) (pre : List Int), q ≤ 16 → pre.length + q ≤ 16 → ∀ k, q + 1 ≤ k →
    linotyperef22_hex.l0 k n (strOfNums pre) (4 * (q : Int) - 4) = some ((⟨#[48, 120]⟩ : ByteArray) ++ strOfNums (pre ++ digs q n))
  | 0, pre, hq, hl, k, hk => by
    obtain ⟨k, rfl⟩ : ∃ m, k = m + 1 := ⟨k - 1, by omega⟩
    simp only [linotyperef22_hex.l0]
    rw [if_neg (by omega), if_pos (by rw [strOfNums_size]; omega), digs, List.append_nil]
  | q + 1, pre, hq, hl, k, hk => by
    obtain ⟨k, rfl⟩ : ∃ m, k = m + 1 := ⟨k - 1, by omega⟩
    have es : shr .i64 n (4 * ((q + 1 : Nat) : Int) - 4) = n / 16 ^ q := by
      unfold shr
      rw [Nat.min_eq_left (by show _ ≤ 64; omega), show (4 * ((q + 1 : Nat) : Int) - 4).toNat = 4 * q by omega, Int.pow_mul]
      rfl
    have hm0 := Int.emod_nonneg (n / 16 ^ q) (show (16 : Int) ≠ 0 by decide)
    have hm1 := Int.emod_lt_of_pos (n / 16 ^ q) (show (0 : Int) < 16 by decide)
    have ew : wrap64 (n / 16 ^ q % 16 + 1) = n / 16 ^ q % 16 + 1 := wrap64_s (by omega) (by omega)
    simp only [linotyperef22_hex.l0]
    rw [es, and15, ew, if_pos (by omega), if_pos (by omega), if_pos hm0, if_pos (by omega), if_pos (by omega), dig_at _ hm0 hm1, if_pos (by rw [strOfNums_size, strOfNums_size]; simp; omega), nums_append, wrap64_s (by omega) (by omega)]
    have z := refHex_l n q (pre ++ [dg (n / 16 ^ q % 16)]) (by omega) (by simp; omega) k (by omega)
    rw [show 4 * ((q + 1 : Nat) : Int) - 4 - 4 = 4 * (q : Int) - 4 by omega, z, List.append_assoc]
    rfl
theorem digs_mod : ∀ (q : Nat) (n m : Int), q ≤ 16 → digs q (n + 18446744073709551616) = digs q n
  | 0, n, m, _ => rfl
  | q + 1, n, m, hq => by
    rw [digs, digs, digs_mod q n m (by omega)]
    congr 2
    have hp : (18446744073709551616 : Int) = 16 ^ (15 - q) * 16 * 16 ^ q := by
      have hq16 : (16 : Int) ^ (15 - q) * 16 * 16 ^ q = 16 ^ 16 := by
        rw [← Int.pow_succ, ← Int.pow_add]
        congr 1
        omega
      rw [hq16]
      rfl
    rw [hp, Int.add_mul_ediv_right _ _ (by have := Int.pow_pos (n := 16) (m := q) (by decide); omega), Int.add_mul_emod_self_right]
theorem refHex_neg (n : Int) (h0 : n < 0) (h1 : -9223372036854775808 ≤ n) (k : Nat) (hk : 30 ≤ k) : linotyperef22_hex.f k n = some ((⟨#[48, 120]⟩ : ByteArray) ++ hexU (n + 18446744073709551616)) := by
  unfold linotyperef22_hex.f hexU
  rw [if_neg (by omega)]
  have z := refHex_l n 16 [] (by omega) (by simp) k (by omega)
  rw [nums_nil] at z
  rw [show (60 : Int) = 4 * ((16 : Nat) : Int) - 4 from rfl, z, hexL_digs 15 _ [] (by simp; omega) (by simp; omega), digs_mod 16 n 0 (by omega), List.append_nil, List.nil_append]
theorem refHex_f (n : Int) (h : (Lit.int .i64 n).wf = true) (k : Nat) (hk : 30 ≤ k) : linotyperef22_hex.f k n = some ((⟨#[48, 120]⟩ : ByteArray) ++ hexU (IntKind.u64.wrap n)) := by
  have hr : -9223372036854775808 ≤ n ∧ n ≤ 9223372036854775807 := by
    have := h
    simp [Lit.wf, IntKind.min, IntKind.max, IntKind.signed, IntKind.bits] at this
    omega
  by_cases c : 0 ≤ n
  · rw [refHex_pos n c (by omega) k hk, IntKind.wrap_u64, Int.emod_eq_of_lt c (by omega)]
  · rw [refHex_neg n (by omega) hr.1 k hk, IntKind.wrap_u64]
    congr 3
    omega
end Go.Proofs.YtjabjooephellaaDoor.Lx
