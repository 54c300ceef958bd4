/- What the printed functions of expressions tell, as plain facts: they come to an end, and what they tell then. No program in sight. -/
import Derived.Test.YtjabjooephellaaXBx9
import Derived.Test.YtjabjooephellaaXBx7
import Derived.Test.YtjabjooephellaaXBx5
namespace Go.Proofs.Ytjabjooephellaa.Ex
set_option linter.unusedVariables false
set_option linter.unusedSimpArgs false
open Go.RowKit Go.Proofs.Ytjabjooephellaa.XB Go.Proofs.YtjabjooephellaaW.PrintWords Go.Proofs.YtjabjooephellaaW.PrintLast

abbrev Nd := S48
abbrev Sy := S53
theorem w64 {x : Int} (h0 : -9223372036854775808 ≤ x) (h1 : x ≤ 9223372036854775807) : wrap64 x = x := by unfold wrap64; omega
theorem toList_inj {s t : ByteArray} (h : s.toList = t.toList) : s = t := by
  rw [ByteArray.toList_eq, ByteArray.toList_eq] at h
  cases s; cases t
  congr 1
  exact Array.toList_inj.1 h

-- names
theorem first_ex (a : Int) : ∃ b, token_first.f a = some b := by unfold token_first.f; (repeat' split) <;> exact ⟨_, rfl⟩
theorem digit_ex (a : Int) : ∃ b, token_digit.f a = some b := by unfold token_digit.f; (repeat' split) <;> exact ⟨_, rfl⟩
theorem more_ex (a : Int) : ∃ b, token_more.f a = some b := by
  obtain ⟨x, hx⟩ := first_ex a
  obtain ⟨y, hy⟩ := digit_ex a
  unfold token_more.f
  rw [hx]; simp only [Option.bind_some]; rw [hy]
  split <;> exact ⟨_, rfl⟩
theorem run_ex (s : ByteArray) (hs : s.size ≤ 1000) : ∀ (d i : Nat), i + d = s.size → ∃ r, Ev (fun k => token_run_more.l0 k s (s.size : Int) (i : Int)) r := by
  intro d
  induction d with
  | zero =>
    intro i hi
    refine ⟨_, Ev.step (f := fun _ => some (s.size : Int)) (fun k => ?_) (Ev.now _)⟩
    simp only [token_run_more.l0]
    rw [if_neg (by omega)]
  | succ d ih =>
    intro i hi
    obtain ⟨r, hr⟩ := ih (i + 1) (by omega)
    obtain ⟨b, hb⟩ := more_ex (bt s (i : Int))
    have hw : wrap64 ((i : Int) + 1) = ((i + 1 : Nat) : Int) := by rw [w64 (by omega) (by omega)]; omega
    have hstep : ∀ k, token_run_more.l0 (k + 1) s (s.size : Int) (i : Int) = if b = true then token_run_more.l0 k s (s.size : Int) ((i + 1 : Nat) : Int) else some (i : Int) := by
      intro k
      simp only [token_run_more.l0]
      rw [if_pos (by omega), if_pos (by omega), if_pos (by omega), hb, hw]
      rfl
    cases b with
    | true => exact ⟨r, Ev.step (fun k => (hstep k).trans (if_pos rfl)) hr⟩
    | false => exact ⟨_, Ev.step (fun k => (hstep k).trans (if_neg (by decide))) (Ev.now _)⟩
theorem name_ex (s : ByteArray) : ∃ b, Ev (fun k => token_Name.f k s) b := by
  unfold token_Name.f
  by_cases c1 : s.toList = ([] : List UInt8)
  · exact ⟨_, Ev.congr (fun k => if_pos c1) (Ev.now _)⟩
  · by_cases c2 : (s.size : Int) ≤ 60
    · by_cases c3 : 0 < (s.size : Int)
      · obtain ⟨b, hb⟩ := first_ex (bt s 0)
        obtain ⟨r, hr⟩ := run_ex s (by omega) s.size 0 (by omega)
        have hrf : Ev (fun k => token_run_more.f k s) r := hr
        cases b with
        | true =>
          refine ⟨_, Ev.congr (f := fun k => (token_run_more.f k s).bind fun t => some (t == (s.size : Int))) (fun k => ?_) (Ev.bind hrf (Ev.now _))⟩
          rw [if_neg c1, if_pos c2, if_pos c3, hb]
          rfl
        | false =>
          refine ⟨_, Ev.congr (f := fun k => some false) (fun k => ?_) (Ev.now _)⟩
          rw [if_neg c1, if_pos c2, if_pos c3, hb]
          rfl
      · exfalso
        apply c1
        rw [ByteArray.toList_eq]
        have h0 : s.data.size = 0 := by
          have h1 : s.size = 0 := by omega
          exact h1
        exact List.eq_nil_of_length_eq_zero (by rw [Array.length_toList]; exact h0)
    · exact ⟨_, Ev.congr (fun k => by rw [if_neg c1, if_neg c2]) (Ev.now _)⟩
theorem leaf_ex (n : Nd) : ∃ b, Ev (fun K => leafK K n) b := by
  unfold leafK expr_leaf.f
  by_cases c1 : n.f0 = 1
  · exact ⟨_, Ev.congr (fun k => if_pos c1) (Ev.now _)⟩
  · by_cases c2 : n.f0 = 2
    · by_cases c3 : n.f1 = 0
      · obtain ⟨b, hb⟩ := name_ex n.f2
        exact ⟨_, Ev.congr (fun k => by rw [if_neg c1, if_pos c2, if_pos c3]) (Ev.bind hb (Ev.now _))⟩
      · exact ⟨_, Ev.congr (fun k => by rw [if_neg c1, if_pos c2, if_neg c3]) (Ev.now _)⟩
    · by_cases c3 : n.f1 = 0
      · exact ⟨_, Ev.congr (fun k => by rw [if_neg c1, if_neg c2, if_pos c3]) (Ev.now _)⟩
      · exact ⟨_, Ev.congr (fun k => by rw [if_neg c1, if_neg c2, if_neg c3]) (Ev.now _)⟩

-- what may be
theorem chkL_ex (x : List Nd) : ∀ (d i : Nat) (st : List Int), i + d = x.length → ∃ e, Ev (fun K => chkL K x (d + 1) (i : Int) st) e := by
  intro d
  induction d with
  | zero =>
    intro i st hi
    simp only [chkL]
    by_cases c : st.length = 1
    · exact ⟨_, Ev.congr (fun k => by rw [if_neg (by omega), if_pos c]) (Ev.now _)⟩
    · exact ⟨_, Ev.congr (fun k => by rw [if_neg (by omega), if_neg c]) (Ev.now _)⟩
  | succ d ih =>
    intro i st hi
    have hii : (i : Int) + 1 = ((i + 1 : Nat) : Int) := by omega
    rw [show (fun K => chkL K x (d + 1 + 1) (i : Int) st) = _ from funext fun K => by rw [chkL, if_pos (by omega), hii]]
    by_cases c1 : opsV (rd_T48 x i).f0 < 0
    · exact ⟨_, Ev.congr (fun k => if_pos c1) (Ev.now _)⟩
    · obtain ⟨b, hb⟩ := leaf_ex (rd_T48 x i)
      cases b with
      | false => exact ⟨_, Ev.congr (fun k => if_neg c1) (Ev.bind hb (Ev.congr (fun k => if_neg (by decide)) (Ev.now _)))⟩
      | true =>
        by_cases c2 : (st.length : Int) < opsV (rd_T48 x i).f0
        · exact ⟨_, Ev.congr (fun k => if_neg c1) (Ev.bind hb (Ev.congr (fun k => by rw [if_pos rfl, if_pos c2]) (Ev.now _)))⟩
        · by_cases c3 : ownA st (opsV (rd_T48 x i).f0) = (rd_T48 x i).f3 ∧ ownB st (opsV (rd_T48 x i).f0) = (rd_T48 x i).f4
          · obtain ⟨e, he⟩ := ih (i + 1) (st.take (st.length - (opsV (rd_T48 x i).f0).toNat) ++ [(i : Int)]) (by omega)
            exact ⟨e, Ev.congr (fun k => if_neg c1) (Ev.bind hb (Ev.congr (fun k => by rw [if_pos rfl, if_neg c2, if_pos c3]) he))⟩
          · exact ⟨_, Ev.congr (fun k => if_neg c1) (Ev.bind hb (Ev.congr (fun k => by rw [if_pos rfl, if_neg c2, if_neg c3]) (Ev.now _)))⟩
theorem chk_ex (x : List Nd) : ∃ e, Ev (fun K => expr_Check.f K x) e := by
  unfold expr_Check.f
  by_cases c : 200 < (x.length : Int)
  · exact ⟨_, Ev.congr (fun k => if_pos c) (Ev.now _)⟩
  · obtain ⟨e, he⟩ := chkL_ex x x.length 0 [] (by omega)
    exact ⟨e, Ev.congr (fun k => if_neg c) he⟩
/-- May a node stand behind what is open? -/
def NodeOk (n : Nd) (st : List Int) : Prop := 0 ≤ opsV n.f0 ∧ Ev (fun K => leafK K n) true ∧ opsV n.f0 ≤ (st.length : Int) ∧ ownA st (opsV n.f0) = n.f3 ∧ ownB st (opsV n.f0) = n.f4
def nextSt (n : Nd) (st : List Int) (i : Int) : List Int := st.take (st.length - (opsV n.f0).toNat) ++ [i]
/-- The nodes that follow, what is open being 'st'. -/
def Okk : Int → List Int → List Nd → Prop
  | _, st, [] => st.length = 1
  | i, st, n :: x => NodeOk n st ∧ Okk (i + 1) (nextSt n st i) x
theorem rd_drop (x : List Nd) (i : Nat) (h : i < x.length) : x.drop i = rd_T48 x i :: x.drop (i + 1) := by
  rw [List.drop_eq_getElem_cons h]
  congr 1
  simp [rd_T48, List.getD, List.getElem?_eq_getElem h]
theorem Ev.det {α : Type} {g : Nat → Option α} {a b : α} (h : Ev g a) (k : Ev g b) : a = b := by
  obtain ⟨K, hK⟩ := h
  obtain ⟨K', hK'⟩ := k
  have h1 := hK (max K K') (by omega)
  have h2 := hK' (max K K') (by omega)
  rw [h1] at h2
  exact Option.some.inj h2
theorem chkL_okk (x : List Nd) : ∀ (d i : Nat) (st : List Int), i + d = x.length → Ev (fun K => chkL K x (d + 1) (i : Int) st) 0 → Okk i st (x.drop i) := by
  intro d
  induction d with
  | zero =>
    intro i st hi h
    rw [List.drop_eq_nil_of_le (by omega)]
    simp only [chkL] at h
    by_cases c : st.length = 1
    · exact c
    · have h2 : Ev (fun K : Nat => some (2 : Int)) 0 := Ev.congr (fun k => by rw [if_neg (by omega), if_neg c]) h
      exact absurd (Ev.det (Ev.now 2) h2) (by decide)
  | succ d ih =>
    intro i st hi h
    have hii : (i : Int) + 1 = ((i + 1 : Nat) : Int) := by omega
    rw [show (fun K => chkL K x (d + 1 + 1) (i : Int) st) = _ from funext fun K => by rw [chkL, if_pos (by omega), hii]] at h
    rw [rd_drop x i (by omega)]
    have no : ¬ Ev (fun K : Nat => some (2 : Int)) 0 := fun h2 => absurd (Ev.det (Ev.now 2) h2) (by decide)
    by_cases c1 : opsV (rd_T48 x i).f0 < 0
    · exact absurd (Ev.congr (fun k => (if_pos c1).symm) h) no
    · obtain ⟨b, hb⟩ := leaf_ex (rd_T48 x i)
      have h := Ev.congr (fun k => (if_neg c1).symm) h
      have hbind : ∀ {r : Int} {f : Nat → Bool → Option Int}, Ev (fun n => (leafK n (rd_T48 x i)).bind (f n)) r → Ev (fun n => f n b) r := by
        intro r f hf
        obtain ⟨K, hK⟩ := hf
        obtain ⟨K', hK'⟩ := hb
        refine ⟨max K K', fun k hk => ?_⟩
        have h1 : (leafK k (rd_T48 x i)).bind (f k) = some r := hK k (by omega)
        have h2 : leafK k (rd_T48 x i) = some b := hK' k (by omega)
        rw [h2] at h1
        exact h1
      have h := hbind h
      cases b with
      | false => exact absurd (Ev.congr (fun k => (if_neg (by decide)).symm) h) no
      | true =>
        have h := Ev.congr (fun k => (if_pos rfl).symm) h
        by_cases c2 : (st.length : Int) < opsV (rd_T48 x i).f0
        · exact absurd (Ev.congr (fun k => (if_pos c2).symm) h) no
        · have h := Ev.congr (fun k => (if_neg c2).symm) h
          by_cases c3 : ownA st (opsV (rd_T48 x i).f0) = (rd_T48 x i).f3 ∧ ownB st (opsV (rd_T48 x i).f0) = (rd_T48 x i).f4
          · have h := Ev.congr (fun k => (if_pos c3).symm) h
            have z := ih (i + 1) _ (by omega) h
            refine ⟨⟨by omega, hb, by omega, c3.1, c3.2⟩, ?_⟩
            rw [hii]
            exact z
          · exact absurd (Ev.congr (fun k => (if_neg c3).symm) h) no
theorem chk_okk (x : List Nd) (h : Ev (fun K => expr_Check.f K x) 0) : x.length ≤ 200 ∧ Okk 0 [] x := by
  unfold expr_Check.f at h
  by_cases c : 200 < (x.length : Int)
  · exact absurd (Ev.det (Ev.now 3) (Ev.congr (fun k => (if_pos c).symm) h)) (by decide)
  · have h := Ev.congr (fun k => (if_neg c).symm) h
    have z := chkL_okk x x.length 0 [] (by omega) h
    rw [List.drop_zero] at z
    exact ⟨by omega, z⟩

-- two operands
theorem u64_pos (a : Int) : 0 ≤ IntKind.u64.wrap a := by
  show 0 ≤ a % _
  exact Int.emod_nonneg _ (by decide)
theorem two_ex (op a b : Int) : ∃ p : Int × Int, (∀ m, expr_two.f (m + 2) op a b = some p) ∧ (p.2 = 0 ∨ p.2 = 5) := by
  have key : ∀ m, expr_two.f (m + 2) op a b = expr_two.f 2 op a b := fun m => by simp only [expr_two.f, expr_two.j0, expr_two.j1]
  have hs : ∀ l, ∃ p : Int × Int, expr_shift.f a b l = some p ∧ (p.2 = 0 ∨ p.2 = 5) := by
    intro l
    unfold expr_shift.f
    by_cases c1 : b < 0
    · exact ⟨_, if_pos c1, .inr rfl⟩
    · rw [if_neg c1]
      cases l with
      | true => exact ⟨_, by rw [if_pos rfl, if_pos (u64_pos b)], .inl rfl⟩
      | false => exact ⟨_, by rw [if_neg (by decide), if_pos (u64_pos b)], .inl rfl⟩
  suffices h : ∃ p : Int × Int, expr_two.f 2 op a b = some p ∧ (p.2 = 0 ∨ p.2 = 5) by
    obtain ⟨p, h1, h2⟩ := h
    exact ⟨p, fun m => (key m).trans h1, h2⟩
  have j1 : ∀ c : Bool, ∃ p : Int × Int, expr_two.j1 1 op a b op c = some p ∧ (p.2 = 0 ∨ p.2 = 5) := by
    intro c
    simp only [expr_two.j1]
    cases c with
    | true =>
      obtain ⟨p, h1, h2⟩ := hs (op == 12)
      exact ⟨p, by rw [if_pos rfl, h1]; rfl, h2⟩
    | false =>
      rw [if_neg (by decide)]
      split
      · exact ⟨_, rfl, .inl rfl⟩
      · split
        · exact ⟨_, rfl, .inl rfl⟩
        · exact ⟨_, rfl, .inl rfl⟩
  have j0 : ∀ c : Bool, (b = 0 → (op = 8 ∨ op = 9) → c = true) → ∃ p : Int × Int, expr_two.j0 2 op a b c = some p ∧ (p.2 = 0 ∨ p.2 = 5) := by
    intro c hc
    rw [expr_two.j0]
    by_cases c0 : c = true
    · exact ⟨_, if_pos c0, .inr rfl⟩
    · rw [if_neg c0]
      by_cases c7 : op = 7
      · exact ⟨_, if_pos c7, .inl rfl⟩
      · rw [if_neg c7]
        by_cases c8 : op = 8
        · rw [if_pos c8]
          by_cases cb : b = 0
          · exact absurd (hc cb (.inl c8)) c0
          · exact ⟨_, if_neg cb, .inl rfl⟩
        · rw [if_neg c8]
          by_cases c9 : op = 9
          · rw [if_pos c9]
            by_cases cb : b = 0
            · exact absurd (hc cb (.inr c9)) c0
            · exact ⟨_, if_neg cb, .inl rfl⟩
          · rw [if_neg c9]
            split
            · exact ⟨_, rfl, .inl rfl⟩
            · split
              · exact ⟨_, rfl, .inl rfl⟩
              · split
                · exact j1 _
                · exact j1 _
  unfold expr_two.f
  by_cases c8 : op = 8
  · rw [if_pos c8]
    exact j0 _ (fun hb _ => by simp [hb])
  · rw [if_neg c8]
    by_cases c9 : op = 9
    · rw [if_pos c9]
      exact j0 _ (fun hb _ => by simp [hb])
    · rw [if_neg c9]
      exact j0 _ (fun _ h => by rcases h with h | h; exact absurd h c8; exact absurd h c9)
theorem two_ev (op a b : Int) : ∃ p : Int × Int, Ev (fun k => expr_two.f k op a b) p ∧ (p.2 = 0 ∨ p.2 = 5) := by
  obtain ⟨p, h1, h2⟩ := two_ex op a b
  refine ⟨p, ⟨2, fun k hk => ?_⟩, h2⟩
  obtain ⟨m, rfl⟩ : ∃ m, k = m + 2 := ⟨k - 2, by omega⟩
  exact h1 m

-- symbols
def lk (l : List Sy) (s : ByteArray) : Int := lookR l s l.length 0 (-1)
def Hit (l : List Sy) (s : ByteArray) (j : Nat) : Prop := (rd_T53 l (j : Int)).f0.toList = s.toList
theorem look_spec (l : List Sy) (s : ByteArray) : ∀ (d i : Nat) (a : Int), i + d = l.length → (lookR l s d (i : Int) a = a ∧ ∀ j, i ≤ j → j < l.length → ¬ Hit l s j) ∨ (∃ r : Nat, i ≤ r ∧ r < l.length ∧ lookR l s d (i : Int) a = (r : Int) ∧ Hit l s r ∧ ∀ j, r < j → j < l.length → ¬ Hit l s j) := by
  intro d
  induction d with
  | zero => intro i a hi; exact .inl ⟨rfl, fun j h1 h2 => by omega⟩
  | succ d ih =>
    intro i a hi
    have hii : (i : Int) + 1 = ((i + 1 : Nat) : Int) := by omega
    rw [lookR, hii]
    by_cases c : Hit l s i
    · have c' : (rd_T53 l (i : Int)).f0.toList = s.toList := c
      rw [if_pos c']
      rcases ih (i + 1) (i : Int) (by omega) with ⟨h1, h2⟩ | ⟨r, h1, h2, h3, h4, h5⟩
      · exact .inr ⟨i, Nat.le_refl _, by omega, h1, c, fun j hj => h2 j (by omega)⟩
      · exact .inr ⟨r, by omega, h2, h3, h4, h5⟩
    · have c' : ¬ (rd_T53 l (i : Int)).f0.toList = s.toList := c
      rw [if_neg c']
      rcases ih (i + 1) a (by omega) with ⟨h1, h2⟩ | ⟨r, h1, h2, h3, h4, h5⟩
      · exact .inl ⟨h1, fun j hj hl => by
          rcases Nat.lt_or_ge i j with q | q
          · exact h2 j (by omega) hl
          · have : j = i := by omega
            subst this; exact c⟩
      · exact .inr ⟨r, by omega, h2, h3, h4, h5⟩
theorem lk_spec (l : List Sy) (s : ByteArray) : (lk l s = -1 ∧ ∀ j, j < l.length → ¬ Hit l s j) ∨ (∃ r : Nat, r < l.length ∧ lk l s = (r : Int) ∧ Hit l s r ∧ ∀ j, r < j → j < l.length → ¬ Hit l s j) := by
  rcases look_spec l s l.length 0 (-1) (by omega) with ⟨h1, h2⟩ | ⟨r, _, h2, h3, h4, h5⟩
  · exact .inl ⟨h1, fun j hj => h2 j (by omega) hj⟩
  · exact .inr ⟨r, h2, h3, h4, h5⟩

-- a number
def placeB (l : List Sy) (n : Nd) : Bool := n.f0 == 3 || n.f0 == 4 || (n.f0 == 2 && (rd_T53 l (lk l n.f2)).f2)
theorem own_in (st : List Int) (B : Int) (hst : ∀ z ∈ st, 0 ≤ z ∧ z < B) (j : Int) (h0 : 0 ≤ j) (h1 : j < (st.length : Int)) : 0 ≤ rdI st j ∧ rdI st j < B := by
  have hj : j.toNat < st.length := by omega
  have : rdI st j = st[j.toNat] := by simp [rdI, rdOf, List.getD, List.getElem?_eq_getElem hj]
  rw [this]
  exact hst _ (List.getElem_mem hj)
theorem next_in (n : Nd) (st : List Int) (i : Nat) (hst : ∀ z ∈ st, 0 ≤ z ∧ z < (i : Int)) : ∀ z ∈ nextSt n st i, 0 ≤ z ∧ z < ((i + 1 : Nat) : Int) := by
  intro z hz
  unfold nextSt at hz
  rcases List.mem_append.1 hz with h | h
  · have := hst z (List.mem_of_mem_take h); omega
  · have : z = (i : Int) := by simpa using h
    omega
theorem evL_gen (x : List Nd) (l : List Sy) (here start : Int) (hx : x.length ≤ 200) (hx0 : 0 < x.length) : ∀ (d i : Nat) (st v : List Int) (hg : Bool), i + d = x.length → Okk i st (x.drop i) → (∀ z ∈ st, 0 ≤ z ∧ z < (i : Int)) →
    ∃ (r : Int) (b : Bool) (e : Int), Ev (fun K => evL K x l here start (d + 1) (i : Int) v hg) (r, b, e) ∧ (e = 0 ∨ e = 5 ∨ e = 6) ∧ (e ≠ 0 → b = false) ∧ (e = 0 → (∀ n ∈ x.drop i, n.f0 = 2 → 0 ≤ lk l n.f2) ∧ b = (hg || (x.drop i).any (placeB l))) := by
  intro d
  induction d with
  | zero =>
    intro i st v hg hi _ _
    rw [List.drop_eq_nil_of_le (by omega)]
    refine ⟨_, _, _, Ev.congr (fun K => by rw [evL, if_neg (by omega), if_pos hx0]) (Ev.now _), .inl rfl, fun h => absurd rfl h, fun _ => ⟨fun n hn => by simp at hn, by simp⟩⟩
  | succ d ih =>
    intro i st v hg hi hok hst
    have hii : (i : Int) + 1 = ((i + 1 : Nat) : Int) := by omega
    rw [rd_drop x i (by omega)] at hok ⊢
    obtain ⟨⟨hn1, hn2, hn3, hn4, hn5⟩, hok⟩ := hok
    rw [hii] at hok
    have hst' := next_in (rd_T48 x i) st i hst
    rw [show (fun K => evL K x l here start (d + 1 + 1) (i : Int) v hg) = _ from funext fun K => by rw [evL, if_pos (by omega), hii]]
    generalize rd_T48 x i = n at *
    have go : ∀ (v' : List Int) (hg' : Bool), n.f0 ≠ 2 → hg' = (hg || placeB l n) → ∃ (r : Int) (b : Bool) (e : Int), Ev (fun K => evL K x l here start (d + 1) ((i + 1 : Nat) : Int) v' hg') (r, b, e) ∧ (e = 0 ∨ e = 5 ∨ e = 6) ∧ (e ≠ 0 → b = false) ∧ (e = 0 → (∀ n' ∈ n :: x.drop (i + 1), n'.f0 = 2 → 0 ≤ lk l n'.f2) ∧ b = (hg || (n :: x.drop (i + 1)).any (placeB l))) := by
      intro v' hg' hne hh
      obtain ⟨r, b, e, h1, h2, h0, h3⟩ := ih (i + 1) _ v' hg' (by omega) hok hst'
      refine ⟨r, b, e, h1, h2, h0, fun he => ?_⟩
      obtain ⟨h4, h5⟩ := h3 he
      refine ⟨fun n' hn' h22 => ?_, ?_⟩
      · rcases List.mem_cons.1 hn' with rfl | hn'
        · exact absurd h22 hne
        · exact h4 n' hn' h22
      · rw [h5, hh, List.any_cons, Bool.or_assoc]
    by_cases c1 : n.f0 = 1
    · obtain ⟨r, b, e, h1, h2⟩ := go _ hg (by omega) (by simp [placeB, c1])
      exact ⟨r, b, e, Ev.congr (fun K => if_pos c1) h1, h2⟩
    · by_cases c2 : n.f0 = 2
      · rcases lk_spec l n.f2 with ⟨q1, q2⟩ | ⟨j, q1, q2, q3, q4⟩
        · refine ⟨0, false, 6, Ev.congr (fun K => ?_) (Ev.now _), .inr (.inr rfl), fun _ => rfl, fun h => absurd h (by decide)⟩
          rw [if_neg c1, if_pos c2, if_pos (show lookR l n.f2 l.length 0 (-1) < 0 by have := q1; unfold lk at this; omega)]
        · have q2' : lookR l n.f2 l.length 0 (-1) = (j : Int) := q2
          obtain ⟨r, b, e, h1, h2, h0, h3⟩ := ih (i + 1) _ (v.set (i : Int).toNat (rd_T53 l (lk l n.f2)).f1) (hg || (rd_T53 l (lk l n.f2)).f2) (by omega) hok hst'
          refine ⟨r, b, e, Ev.congr (fun K => ?_) h1, h2, h0, fun he => ?_⟩
          · rw [if_neg c1, if_pos c2, if_neg (by rw [q2']; omega), if_pos (by rw [q2']; omega)]
            rfl
          · obtain ⟨h4, h5⟩ := h3 he
            refine ⟨fun n' hn' h22 => ?_, ?_⟩
            · rcases List.mem_cons.1 hn' with rfl | hn'
              · rw [q2]; omega
              · exact h4 n' hn' h22
            · rw [h5, List.any_cons, Bool.or_assoc]
              congr 2
              simp [placeB, c2]
      · by_cases c3 : n.f0 = 3
        · obtain ⟨r, b, e, h1, h2⟩ := go _ true c2 (by simp [placeB, c3])
          exact ⟨r, b, e, Ev.congr (fun K => by rw [if_neg c1, if_neg c2, if_pos c3]) h1, h2⟩
        · by_cases c4 : n.f0 = 4
          · obtain ⟨r, b, e, h1, h2⟩ := go _ true c2 (by simp [placeB, c4])
            exact ⟨r, b, e, Ev.congr (fun K => by rw [if_neg c1, if_neg c2, if_neg c3, if_pos c4]) h1, h2⟩
          · have hpl : hg = (hg || placeB l n) := by simp [placeB, c2, c3, c4]
            have hop : 5 ≤ n.f0 ∧ n.f0 ≤ 16 := by
              unfold opsV at hn1
              split at hn1
              · omega
              · split at hn1
                · omega
                · omega
            have hops : opsV n.f0 = 1 ∨ opsV n.f0 = 2 := by
              unfold opsV
              rw [if_neg (by omega), if_neg (by omega), if_neg (by omega)]
              split
              · exact .inl rfl
              · exact .inr rfl
            have hL : 0 ≤ n.f3 ∧ n.f3 < 200 := by
              rw [← hn4]
              unfold ownA
              rcases hops with h | h
              · rw [h, if_pos rfl]
                have := own_in st i hst ((st.length : Int) - 1) (by omega) (by omega)
                omega
              · rw [h, if_neg (by decide), if_pos rfl]
                have := own_in st i hst ((st.length : Int) - 2) (by omega) (by omega)
                omega
            by_cases c5 : n.f0 = 5
            · obtain ⟨r, b, e, h1, h2⟩ := go _ hg c2 hpl
              exact ⟨r, b, e, Ev.congr (fun K => by rw [if_neg c1, if_neg c2, if_neg c3, if_neg c4, if_pos hL, if_pos c5]) h1, h2⟩
            · by_cases c6 : n.f0 = 6
              · obtain ⟨r, b, e, h1, h2⟩ := go _ hg c2 hpl
                exact ⟨r, b, e, Ev.congr (fun K => by rw [if_neg c1, if_neg c2, if_neg c3, if_neg c4, if_pos hL, if_neg c5, if_pos c6]) h1, h2⟩
              · have hops2 : opsV n.f0 = 2 := by
                  unfold opsV
                  rw [if_neg (by omega), if_neg (by omega), if_neg (by omega), if_neg (by omega)]
                have hR : 0 ≤ n.f4 ∧ n.f4 < 200 := by
                  rw [← hn5]
                  unfold ownB
                  rw [hops2, if_pos rfl]
                  have := own_in st i hst ((st.length : Int) - 1) (by omega) (by omega)
                  omega
                obtain ⟨p, hp, hp2⟩ := two_ev n.f0 (rdI v n.f3) (rdI v n.f4)
                by_cases cp : p.2 = 0
                · obtain ⟨r, b, e, h1, h2⟩ := go _ hg c2 hpl
                  exact ⟨r, b, e, Ev.congr (fun K => by rw [if_neg c1, if_neg c2, if_neg c3, if_neg c4, if_pos hL, if_neg c5, if_neg c6, if_pos hR]) (Ev.bind hp (Ev.congr (fun K => if_pos cp) h1)), h2⟩
                · refine ⟨0, false, p.2, Ev.congr (fun K => by rw [if_neg c1, if_neg c2, if_neg c3, if_neg c4, if_pos hL, if_neg c5, if_neg c6, if_pos hR]) (Ev.bind hp (Ev.congr (fun K => if_neg cp) (Ev.now _))), ?_, fun _ => rfl, fun h => absurd h cp⟩
                  rcases hp2 with h | h
                  · exact absurd h cp
                  · exact .inr (.inl h)
theorem eval_gen (x : List Nd) (l : List Sy) (here start : Int) (hl : l.length ≤ 1000) (hc : Ev (fun K => expr_Check.f K x) 0) :
    ∃ (r : Int) (b : Bool) (e : Int), Ev (fun K => expr_Eval.f K x l here start) (r, b, e) ∧ (e = 0 ∨ e = 5 ∨ e = 6) ∧ (e ≠ 0 → b = false) ∧ (e = 0 → (∀ n ∈ x, n.f0 = 2 → 0 ≤ lk l n.f2) ∧ b = x.any (placeB l)) := by
  obtain ⟨h1, h2⟩ := chk_okk x hc
  have hx0 : 0 < x.length := by
    rcases x with _ | ⟨n, x⟩
    · exact absurd h2 (by simp [Okk])
    · simp
  obtain ⟨r, b, e, h3, h4, h0, h5⟩ := evL_gen x l here start h1 hx0 x.length 0 [] (List.replicate 200 0) false (by omega) (by rw [List.drop_zero]; exact h2) (fun z hz => by simp at hz)
  refine ⟨r, b, e, ?_, h4, h0, ?_⟩
  · unfold expr_Eval.f
    refine Ev.congr (fun K => if_pos (by omega)) (Ev.bind hc ?_)
    exact Ev.congr (fun K => if_pos rfl) h3
  · rw [List.drop_zero, Bool.false_or] at h5
    exact h5
/-- What has no names and no places has the same number everywhere. -/
theorem evL_same (x : List Nd) (l : List Sy) (here start : Int) (hp : ∀ n ∈ x, n.f0 ≠ 2 ∧ n.f0 ≠ 3 ∧ n.f0 ≠ 4) : ∀ (k i : Nat) (v : List Int) (hg : Bool) (K : Nat), evL K x l here start k (i : Int) v hg = evL K x [] 0 0 k (i : Int) v hg := by
  intro k
  induction k with
  | zero => intro i v hg K; rfl
  | succ k ih =>
    intro i v hg K
    have hii : (i : Int) + 1 = ((i + 1 : Nat) : Int) := by omega
    rw [evL, evL, hii]
    by_cases c : (i : Int) < (x.length : Int)
    · have hm : rd_T48 x i ∈ x := by
        have hlt : i < x.length := by omega
        have : rd_T48 x i = x[i] := by simp [rd_T48, List.getD, List.getElem?_eq_getElem hlt]
        rw [this]
        exact List.getElem_mem hlt
      obtain ⟨p2, p3, p4⟩ := hp _ hm
      rw [if_pos c, if_pos c, if_neg p2, if_neg p2, if_neg p3, if_neg p3, if_neg p4, if_neg p4]
      simp only [ih]
    · rw [if_neg c, if_neg c]
end Go.Proofs.Ytjabjooephellaa.Ex
