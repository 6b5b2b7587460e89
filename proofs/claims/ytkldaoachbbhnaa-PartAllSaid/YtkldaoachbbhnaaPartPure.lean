/- Chapter 25, the plain law: who goes where. No program in sight. -/
import Derived.Test.YtkldaoachbbhnaaK22
namespace Go.Proofs.YtkldaoachbbhnaaF
open Go Go.Proofs.YtkldaoachbbhnaaK
set_option linter.unusedSimpArgs false
set_option linter.unusedVariables false

def rAt (D : List (List Int)) (i k : Int) : Int := if i < 0 ∨ k < 0 then 0 else ((D[i.toNat]?.bind fun r => r[k.toNat]?).getD 0)
def OkN (x : Int) : Prop := 0 ≤ x ∧ x ≤ 1125899906842624
def OkD (D : List (List Int)) : Prop := ∀ l ∈ D, ∀ x ∈ l, OkN x
theorem rAt_ok {D : List (List Int)} (h : OkD D) (i k : Int) : OkN (rAt D i k) := by
  unfold rAt
  split
  · exact ⟨by omega, by omega⟩
  · cases h1 : D[i.toNat]? with
    | none => exact ⟨by simp, by simp⟩
    | some l =>
      cases h2 : l[k.toNat]? with
      | none => simp [h2]; exact ⟨by omega, by omega⟩
      | some x => simp [h2]; exact h l (List.mem_of_getElem? h1) x (List.mem_of_getElem? h2)
def mAt (M : List Int) (i : Int) : Int := if i < 0 then 0 else (M[i.toNat]?).getD 0
theorem mAt_ok {M : List Int} (h : ∀ x ∈ M, OkN x) (i : Int) : OkN (mAt M i) := by
  unfold mAt
  split
  · exact ⟨by omega, by omega⟩
  · cases h1 : M[i.toNat]? with
    | none => exact ⟨by simp, by simp⟩
    | some x => simp; exact h x (List.mem_of_getElem? h1)
def mx (n x : Int) : Int := if x > n then x else n
def rad (D : List (List Int)) (M : List Int) (p : Int) (l : List Int) : Int := l.foldl (fun n i => mx n (rAt D p i + mAt M i)) 0
theorem rad_snoc (D : List (List Int)) (M : List Int) (p : Int) (l : List Int) (i : Int) : rad D M p (l ++ [i]) = mx (rad D M p l) (rAt D p i + mAt M i) := by
  unfold rad; rw [List.foldl_append]; rfl
theorem rad_ok {D : List (List Int)} {M : List Int} (hD : OkD D) (hM : ∀ x ∈ M, OkN x) (p : Int) : ∀ l : List Int, 0 ≤ rad D M p l ∧ rad D M p l ≤ 2251799813685248 := by
  have key : ∀ (l : List Int) (n : Int), (0 ≤ n ∧ n ≤ 2251799813685248) → (0 ≤ l.foldl (fun n i => mx n (rAt D p i + mAt M i)) n ∧ l.foldl (fun n i => mx n (rAt D p i + mAt M i)) n ≤ 2251799813685248) := by
    intro l
    induction l with
    | nil => intro n h; exact h
    | cons i l ih =>
      intro n h
      refine ih _ ?_
      have h1 := rAt_ok hD p i
      have h2 := mAt_ok hM i
      unfold OkN at h1 h2
      show 0 ≤ mx n _ ∧ mx n _ ≤ _
      unfold mx
      split <;> omega
  exact fun l => key l 0 ⟨by omega, by omega⟩

/-- The numbers below n of which q holds. -/
def pk (q : Nat → Bool) (n : Nat) : List Int := ((List.range n).filter q).map fun i : Nat => (i : Int)
theorem pk_succ (q : Nat → Bool) (n : Nat) : pk q (n + 1) = pk q n ++ (if q n = true then [(n : Int)] else []) := by
  unfold pk
  rw [List.range_succ, List.filter_append, List.map_append]
  congr 1
  by_cases h : q n = true <;> simp [h]
theorem pk_congr {q r : Nat → Bool} {n : Nat} (h : ∀ i, i < n → q i = r i) : pk q n = pk r n := by
  unfold pk
  rw [List.filter_congr fun i hi => h i (List.mem_range.1 hi)]
theorem pk_mem {q : Nat → Bool} {n : Nat} {x : Int} : x ∈ pk q n ↔ ∃ i : Nat, i < n ∧ q i = true ∧ x = i := by
  unfold pk
  simp only [List.mem_map, List.mem_filter, List.mem_range]
  exact ⟨fun ⟨i, ⟨h1, h2⟩, h3⟩ => ⟨i, h1, h2, h3.symm⟩, fun ⟨i, h1, h2, h3⟩ => ⟨i, ⟨h1, h2⟩, h3.symm⟩⟩
theorem pk_lt (q : Nat → Bool) (n : Nat) : (pk q n).Pairwise (· < ·) := by
  induction n with
  | zero => exact List.Pairwise.nil
  | succ n ih =>
    rw [pk_succ]
    refine List.pairwise_append.2 ⟨ih, ?_, fun x hx y hy => ?_⟩
    · split
      · exact List.pairwise_singleton _ _
      · exact List.Pairwise.nil
    · obtain ⟨i, hi, _, rfl⟩ := pk_mem.1 hx
      split at hy
      · obtain rfl := List.mem_singleton.1 hy; omega
      · cases hy
theorem pk_len_le (q : Nat → Bool) (n : Nat) : (pk q n).length ≤ n := by
  unfold pk; rw [List.length_map]; have := List.length_filter_le q (List.range n); rwa [List.length_range] at this
theorem pk_len_add (q : Nat → Bool) (n : Nat) : (pk q n).length + (pk (fun i => !q i) n).length = n := by
  induction n with
  | zero => rfl
  | succ n ih =>
    rw [pk_succ, pk_succ, List.length_append, List.length_append]
    cases h : q n <;> simp [h] <;> omega
theorem pk_add {q r : Nat → Bool} {i n : Nat} (hi : i < n) (hq : q i = false) (hr : ∀ j, r j = (q j || j == i)) : (pk r n).Perm (pk q n ++ [(i : Int)]) := by
  induction n with
  | zero => omega
  | succ n ih =>
    rw [pk_succ, pk_succ, hr n]
    rcases Nat.lt_or_ge i n with h | h
    · have hn : (n == i) = false := by rw [beq_eq_false_iff_ne]; omega
      rw [hn, Bool.or_false]
      refine ((ih h).append_right _).trans ?_
      rw [List.append_assoc, List.append_assoc]
      exact List.Perm.append_left _ List.perm_append_comm
    · obtain rfl : i = n := by omega
      have e : pk r i = pk q i := pk_congr fun j hj => by rw [hr j, show (j == i) = false by rw [beq_eq_false_iff_ne]; omega, Bool.or_false]
      rw [e, hq]; simp
theorem pk_len_add1 {q r : Nat → Bool} {i n : Nat} (hi : i < n) (hq : q i = false) (hr : ∀ j, r j = (q j || j == i)) : (pk r n).length = (pk q n).length + 1 := by
  have := (pk_add hi hq hr).length_eq; simpa using this
theorem filter_ne : ∀ {l : List Int} {m : Nat} {v : Int}, l.Pairwise (· < ·) → l[m]? = some v → l.filter (fun x => x != v) = l.take m ++ l.drop (m + 1)
  | [], m, v, _, h => by cases h
  | x :: l, 0, v, hp, h => by
    simp only [List.getElem?_cons_zero, Option.some.injEq] at h
    subst h
    obtain ⟨h1, h2⟩ := List.pairwise_cons.1 hp
    rw [List.filter_cons_of_neg (by simp)]
    simp only [List.take_zero, List.nil_append, List.drop_succ_cons, List.drop_zero]
    exact List.filter_eq_self.2 fun y hy => by have := h1 y hy; simp; omega
  | x :: l, m + 1, v, hp, h => by
    obtain ⟨h1, h2⟩ := List.pairwise_cons.1 hp
    have h' : l[m]? = some v := by simpa using h
    have := h1 v (List.mem_of_getElem? h')
    rw [List.filter_cons_of_pos (by simp; omega), filter_ne h2 h']
    simp
theorem pk_del {q r : Nat → Bool} {i n m : Nat} (hm : (pk q n)[m]? = some (i : Int)) (hr : ∀ j, r j = (q j && j != i)) : pk r n = (pk q n).take m ++ (pk q n).drop (m + 1) := by
  rw [← filter_ne (pk_lt q n) hm]
  unfold pk
  rw [List.filter_map, List.filter_filter]
  congr 1
  refine List.filter_congr fun j _ => ?_
  rw [hr j]
  simp only [Function.comp]
  cases q j
  · simp
  · simp only [Bool.true_and, Bool.and_true]
    by_cases h : j = i
    · subst h; simp
    · have h2 : (j : Int) ≠ (i : Int) := by omega
      simp only [bne, show (j == i) = false from beq_eq_false_iff_ne.2 h, show ((j : Int) == (i : Int)) = false from beq_eq_false_iff_ne.2 h2]

/-- The first one of the least. -/
def isB (D : List (List Int)) (p : Int) (T : List Int) (i : Nat) : Bool := (T[i]? == some 0) && (List.range T.length).all fun j => !(T[j]? == some 0) || decide (rAt D p i ≤ rAt D p j)
def best (D : List (List Int)) (p : Int) (T : List Int) : Option Nat := (List.range T.length).find? (isB D p T)
def Fst (D : List (List Int)) (p : Int) (T : List Int) (i : Nat) : Prop := i < T.length ∧ T[i]? = some 0 ∧ ∀ j : Nat, j < T.length → T[j]? = some 0 → rAt D p i ≤ rAt D p j ∧ (j < i → rAt D p i < rAt D p j)
theorem isB_iff {D : List (List Int)} {p : Int} {T : List Int} {i : Nat} : isB D p T i = true ↔ T[i]? = some 0 ∧ ∀ j : Nat, j < T.length → T[j]? = some 0 → rAt D p i ≤ rAt D p j := by
  unfold isB
  simp only [Bool.and_eq_true, List.all_eq_true, List.mem_range, beq_iff_eq, Bool.or_eq_true, Bool.not_eq_true', beq_eq_false_iff_ne, decide_eq_true_eq]
  exact ⟨fun ⟨h1, h2⟩ => ⟨h1, fun j hj h0 => (h2 j hj).resolve_left fun hn => hn h0⟩, fun ⟨h1, h2⟩ => ⟨h1, fun j hj => Classical.byCases (fun h0 => .inr (h2 j hj h0)) .inl⟩⟩
theorem find_range {q : Nat → Bool} {n i : Nat} (hi : i < n) (h : q i = true) (hb : ∀ j, j < i → q j = false) : (List.range n).find? q = some i := by
  induction n with
  | zero => omega
  | succ n ih =>
    rw [List.range_succ, List.find?_append]
    rcases Nat.lt_or_ge i n with h1 | h1
    · rw [ih h1]; rfl
    · obtain rfl : i = n := by omega
      rw [List.find?_eq_none.2 fun j hj => by rw [hb j (List.mem_range.1 hj)]; simp]
      simp [h]
theorem best_some {D : List (List Int)} {p : Int} {T : List Int} {i : Nat} (h : Fst D p T i) : best D p T = some i := by
  obtain ⟨h1, h2, h3⟩ := h
  refine find_range h1 (isB_iff.2 ⟨h2, fun j hj h0 => (h3 j hj h0).1⟩) fun j hj => ?_
  cases hb : isB D p T j with
  | false => rfl
  | true =>
    obtain ⟨h4, h5⟩ := isB_iff.1 hb
    have := (h3 j (by omega) h4).2 hj
    have := h5 i h1 h2
    omega
theorem best_none {D : List (List Int)} {p : Int} {T : List Int} (h : ∀ j : Nat, j < T.length → T[j]? ≠ some 0) : best D p T = none :=
  List.find?_eq_none.2 fun j hj hb => h j (List.mem_range.1 hj) (isB_iff.1 hb).1
def stepE (D : List (List Int)) (a b k : Nat) (T : List Int) : List Int := match best D (if k % 2 = 1 then (b : Int) else (a : Int)) T with
  | none => T
  | some i => T.set i (if k % 2 = 1 then 2 else 1)
def T0 (n a b : Nat) : List Int := ((List.replicate n (0 : Int)).set a 1).set b 2
def evT (D : List (List Int)) (a b : Nat) : Nat → List Int
  | 0 => T0 D.length a b
  | k + 1 => stepE D a b k (evT D a b k)
def is0 (T : List Int) (v : Int) (i : Nat) : Bool := T[i]? == some v
theorem T0_len (n a b : Nat) : (T0 n a b).length = n := by simp [T0]
theorem stepE_len (D : List (List Int)) (a b k : Nat) (T : List Int) : (stepE D a b k T).length = T.length := by
  unfold stepE; split <;> simp
theorem evT_len (D : List (List Int)) (a b k : Nat) : (evT D a b k).length = D.length := by
  induction k with
  | zero => exact T0_len _ _ _
  | succ k ih => rw [evT, stepE_len, ih]
theorem T0_get {n a b : Nat} (ha : a < n) (hb : b < n) (hab : a ≠ b) {i : Nat} (hi : i < n) : (T0 n a b)[i]? = some (if i = a then 1 else if i = b then 2 else 0) := by
  unfold T0
  by_cases h1 : b = i
  · subst h1
    rw [List.getElem?_set_self (by simpa using hb), if_neg (fun e => hab e.symm), if_pos rfl]
  · rw [List.getElem?_set_ne h1]
    by_cases h2 : a = i
    · subst h2
      rw [List.getElem?_set_self (by simpa using ha), if_pos rfl]
    · rw [List.getElem?_set_ne h2, List.getElem?_replicate, if_pos hi, if_neg (fun e => h2 e.symm), if_neg (fun e => h1 e.symm)]
theorem stepE_none {D : List (List Int)} {a b k : Nat} {T : List Int} (h : ∀ j : Nat, j < T.length → T[j]? ≠ some 0) : stepE D a b k T = T := by
  unfold stepE; rw [best_none h]
theorem stepE_some {D : List (List Int)} {a b k i : Nat} {T : List Int} (h : Fst D (if k % 2 = 1 then (b : Int) else (a : Int)) T i) : stepE D a b k T = T.set i (if k % 2 = 1 then 2 else 1) := by
  unfold stepE; rw [best_some h]
theorem evT_stay {D : List (List Int)} {a b k : Nat} (h : ∀ j : Nat, j < D.length → (evT D a b k)[j]? ≠ some 0) : ∀ m, k ≤ m → evT D a b m = evT D a b k := by
  intro m hm
  induction m with
  | zero => obtain rfl : k = 0 := by omega
            rfl
  | succ m ih =>
    rcases Nat.eq_or_lt_of_le hm with e | hlt
    · rw [e]
    · have := ih (by omega)
      rw [evT, this, stepE_none (by rw [evT_len]; exact h)]
/-- There is a first one where there is one. -/
theorem fst_ex {D : List (List Int)} {p : Int} {T : List Int} (h : ∃ j : Nat, j < T.length ∧ T[j]? = some 0) : ∃ i, Fst D p T i := by
  have key : ∀ n, n ≤ T.length → (∃ j : Nat, j < n ∧ T[j]? = some 0) → ∃ i : Nat, i < n ∧ T[i]? = some 0 ∧ ∀ j : Nat, j < n → T[j]? = some 0 → rAt D p i ≤ rAt D p j ∧ (j < i → rAt D p i < rAt D p j) := by
    intro n
    induction n with
    | zero => rintro _ ⟨j, hj, _⟩; omega
    | succ n ih =>
      rintro hn ⟨j, hj, h0⟩
      by_cases hx : ∃ j : Nat, j < n ∧ T[j]? = some 0
      · obtain ⟨i, h1, h2, h3⟩ := ih (by omega) hx
        by_cases hb : T[n]? = some 0 ∧ rAt D p n < rAt D p i
        · refine ⟨n, by omega, hb.1, fun j hj h0 => ?_⟩
          rcases Nat.lt_or_ge j n with h | h
          · have := (h3 j h h0).1; exact ⟨by omega, fun _ => by omega⟩
          · obtain rfl : j = n := by omega
            exact ⟨by omega, fun h => by omega⟩
        · refine ⟨i, by omega, h2, fun j hj h0 => ?_⟩
          rcases Nat.lt_or_ge j n with h | h
          · exact h3 j h h0
          · obtain rfl : j = n := by omega
            have : ¬ rAt D p j < rAt D p i := fun h => hb ⟨h0, h⟩
            exact ⟨by omega, fun h => by omega⟩
      · have hjn : j = n := by
          rcases Nat.lt_or_ge j n with h | h
          · exact (hx ⟨j, h, h0⟩).elim
          · omega
        subst hjn
        refine ⟨j, by omega, h0, fun k hk hk0 => ?_⟩
        rcases Nat.lt_or_ge k j with h | h
        · exact (hx ⟨k, h, hk0⟩).elim
        · obtain rfl : k = j := by omega
          exact ⟨by omega, fun h => by omega⟩
  obtain ⟨i, h1, h2, h3⟩ := key T.length (Nat.le_refl _) h
  exact ⟨i, h1, h2, h3⟩
/-- What of the rows of a table of who goes where becomes by one more. -/
theorem set_is {T : List Int} {i : Nat} {v w : Int} (hi : i < T.length) (hv : T[i]? = some w) (u : Int) (j : Nat) : is0 (T.set i v) u j = if j = i then v == u else is0 T u j := by
  unfold is0
  by_cases h : i = j
  · subst h
    rw [List.getElem?_set_self hi, if_pos rfl]; rfl
  · rw [List.getElem?_set_ne h, if_neg (fun e => h e.symm)]
structure EvI (n : Nat) (T : List Int) (k : Nat) : Prop where
  vals : ∀ i : Nat, i < n → T[i]? = some 0 ∨ T[i]? = some 1 ∨ T[i]? = some 2
  diff : (pk (is0 T 2) n).length ≤ (pk (is0 T 1) n).length ∧ (pk (is0 T 1) n).length ≤ (pk (is0 T 2) n).length + 1
  cnt : (∃ j : Nat, j < n ∧ T[j]? = some 0) → (pk (is0 T 1) n).length = 1 + (k + 1) / 2 ∧ (pk (is0 T 2) n).length = 1 + k / 2
theorem pk_one {a n : Nat} (ha : a < n) {q : Nat → Bool} (hq : ∀ i, i < n → q i = (i == a)) : pk q n = [(a : Int)] := by
  have := pk_add (q := fun _ => false) (r := fun i => i == a) (n := n) ha rfl (fun j => by simp)
  rw [show pk (fun _ => false) n = [] by unfold pk; simp] at this
  rw [pk_congr hq]
  simpa using this
theorem evI_0 {n a b : Nat} (ha : a < n) (hb : b < n) (hab : a ≠ b) : EvI n (T0 n a b) 0 := by
  have e1 : pk (is0 (T0 n a b) 1) n = [(a : Int)] := pk_one ha fun i hi => by
    unfold is0; rw [T0_get ha hb hab hi]
    by_cases h : i = a
    · subst h; simp
    · by_cases h2 : i = b
      · subst h2; simp [h]
      · simp [h, h2]
  have e2 : pk (is0 (T0 n a b) 2) n = [(b : Int)] := pk_one hb fun i hi => by
    unfold is0; rw [T0_get ha hb hab hi]
    by_cases h : i = a
    · subst h; simp [hab]
    · by_cases h2 : i = b
      · subst h2; simp [h]
      · simp [h, h2]
  refine ⟨fun i hi => ?_, ?_, fun _ => ?_⟩
  · rw [T0_get ha hb hab hi]
    split
    · exact .inr (.inl rfl)
    · split
      · exact .inr (.inr rfl)
      · exact .inl rfl
  · rw [e1, e2]; exact ⟨by simp, by simp⟩
  · rw [e1, e2]; exact ⟨rfl, rfl⟩
theorem evI_step {D : List (List Int)} {a b k : Nat} {T : List Int} (hl : T.length = D.length) (h : EvI D.length T k) : EvI D.length (stepE D a b k T) (k + 1) := by
  by_cases hx : ∃ j : Nat, j < T.length ∧ T[j]? = some 0
  · obtain ⟨i, hi⟩ := fst_ex (D := D) (p := if k % 2 = 1 then (b : Int) else (a : Int)) hx
    rw [stepE_some hi]
    obtain ⟨h1, h2, _⟩ := hi
    obtain ⟨c1, c2⟩ := h.cnt (by rw [← hl]; exact hx)
    have q1 : is0 T 1 i = false := by unfold is0; rw [h2]; decide
    have q2 : is0 T 2 i = false := by unfold is0; rw [h2]; decide
    have hil : i < D.length := by omega
    by_cases hk : k % 2 = 1
    · rw [if_pos hk]
      have e1 : pk (is0 (T.set i 2) 1) D.length = pk (is0 T 1) D.length := pk_congr fun j _ => by rw [set_is h1 h2]; split; (subst j; rw [q1]; decide); rfl
      have e2 := pk_len_add1 (r := is0 (T.set i 2) 2) hil q2 fun j => by rw [set_is h1 h2]; split; (subst j; simp); (rename_i hj; simp [hj])
      refine ⟨fun j hj => ?_, ?_, fun _ => ?_⟩
      · by_cases hji : i = j
        · subst hji; rw [List.getElem?_set_self h1]; exact .inr (.inr rfl)
        · rw [List.getElem?_set_ne hji]; exact h.vals j hj
      · rw [e1, e2]; omega
      · rw [e1, e2]; omega
    · rw [if_neg hk]
      have e1 : pk (is0 (T.set i 1) 2) D.length = pk (is0 T 2) D.length := pk_congr fun j _ => by rw [set_is h1 h2]; split; (subst j; rw [q2]; decide); rfl
      have e2 := pk_len_add1 (r := is0 (T.set i 1) 1) hil q1 fun j => by rw [set_is h1 h2]; split; (subst j; simp); (rename_i hj; simp [hj])
      refine ⟨fun j hj => ?_, ?_, fun _ => ?_⟩
      · by_cases hji : i = j
        · subst hji; rw [List.getElem?_set_self h1]; exact .inr (.inl rfl)
        · rw [List.getElem?_set_ne hji]; exact h.vals j hj
      · rw [e1, e2]; omega
      · rw [e1, e2]; omega
  · have hn : ∀ j : Nat, j < T.length → T[j]? ≠ some 0 := fun j hj h0 => hx ⟨j, hj, h0⟩
    rw [stepE_none hn]
    exact ⟨h.vals, h.diff, fun ⟨j, hj, h0⟩ => (hx ⟨j, by omega, h0⟩).elim⟩
theorem evT_I {D : List (List Int)} {a b : Nat} (ha : a < D.length) (hb : b < D.length) (hab : a ≠ b) : ∀ k, EvI D.length (evT D a b k) k
  | 0 => evI_0 ha hb hab
  | k + 1 => evI_step (evT_len D a b k) (evT_I ha hb hab k)

/-- Which things go to a. -/
def toA (D : List (List Int)) (a b : Nat) (pol : Int) (i : Nat) : Bool := if pol = 1 then decide (i = a) || (decide (i ≠ b) && decide (rAt D a i ≤ rAt D b i)) else is0 (evT D a b D.length) 1 i
def dv (D : List (List Int)) (a b pol : Int) : List Int × List Int :=
  if a < 0 ∨ b < 0 ∨ a ≥ D.length ∨ b ≥ D.length ∨ a = b then ([], []) else (pk (toA D a.toNat b.toNat pol) D.length, pk (fun i => !toA D a.toNat b.toNat pol i) D.length)

theorem srt_merge {q : Nat → Bool} {n : Nat} {l : List Int} (h : l.Perm (pk q n)) : (l.mergeSort fun x y => decide (x ≤ y)) = pk q n := by
  refine List.Perm.eq_of_pairwise (le := fun x y => x ≤ y) (fun a b _ _ h1 h2 => by omega) ?_ ?_ ((List.mergeSort_perm _ _).trans h)
  · have := List.pairwise_mergeSort (le := fun (x y : Int) => decide (x ≤ y)) (by intro a b c h1 h2; simp at *; omega) (by intro a b; simp; omega) l
    exact this.imp fun h => by simpa using h
  · exact (pk_lt q n).imp fun h => by omega

/-- The pairs gone through. -/
def far (D : List (List Int)) (M : List Int) (pol : Int) (i k : Nat) : Int := mx (rad D M i (dv D i k pol).1) (rad D M k (dv D i k pol).2)
abbrev PS := Int × Int × Int
def stp (f : Nat → Nat → Int) (i k : Nat) (s : PS) : PS := if s.2.2 < 0 ∨ f i k < s.2.2 then ((i : Int), (k : Int), f i k) else s
/-- Behind the pairs i, i + 1 .. i, i + m. -/
def inn (f : Nat → Nat → Int) (i : Nat) (s : PS) : Nat → PS
  | 0 => s
  | m + 1 => stp f i (i + 1 + m) (inn f i s m)
def out (f : Nat → Nat → Int) (n : Nat) : Nat → PS
  | 0 => (0, 1, -1)
  | i + 1 => inn f i (out f n i) (n - (i + 1))
theorem stp_zero {f : Nat → Nat → Int} (hf : ∀ i k, 0 ≤ f i k) {i k : Nat} {s : PS} (h : s.2.2 = 0) : stp f i k s = s := by
  unfold stp; have := hf i k; rw [if_neg (by omega)]
theorem inn_zero {f : Nat → Nat → Int} (hf : ∀ i k, 0 ≤ f i k) {i : Nat} {s : PS} (h : s.2.2 = 0) : ∀ m, inn f i s m = s
  | 0 => rfl
  | m + 1 => by rw [inn, inn_zero hf h m, stp_zero hf h]
theorem inn_stay {f : Nat → Nat → Int} (hf : ∀ i k, 0 ≤ f i k) {i : Nat} {s : PS} {m : Nat} (h : (inn f i s m).2.2 = 0) : ∀ m', m ≤ m' → inn f i s m' = inn f i s m := by
  intro m' hm
  induction m' with
  | zero => obtain rfl : m = 0 := by omega
            rfl
  | succ m' ih =>
    rcases Nat.eq_or_lt_of_le hm with e | hlt
    · rw [e]
    · have := ih (by omega)
      rw [inn, this, stp_zero hf h]
theorem out_stay {f : Nat → Nat → Int} (hf : ∀ i k, 0 ≤ f i k) {n i : Nat} (h : (out f n i).2.2 = 0) : ∀ m, i ≤ m → out f n m = out f n i := by
  intro m hm
  induction m with
  | zero => obtain rfl : i = 0 := by omega
            rfl
  | succ m ih =>
    rcases Nat.eq_or_lt_of_le hm with e | hlt
    · rw [e]
    · have := ih (by omega)
      rw [out, this, inn_zero hf h]
theorem inn_pos {f : Nat → Nat → Int} (hf : ∀ i k, 0 ≤ f i k) {i : Nat} {s : PS} : ∀ m, (0 ≤ s.2.2 ∨ 0 < m) → 0 ≤ (inn f i s m).2.2
  | 0, h => by rcases h with h | h; exact h; omega
  | m + 1, h => by
    rw [inn]; unfold stp
    split
    · exact hf _ _
    · rename_i hn; omega
theorem out_pos {f : Nat → Nat → Int} (hf : ∀ i k, 0 ≤ f i k) {n : Nat} (hn : 2 ≤ n) : ∀ i, 1 ≤ i → 0 ≤ (out f n i).2.2
  | 0, h => by omega
  | i + 1, _ => by
    rw [out]
    refine inn_pos hf _ ?_
    rcases Nat.eq_zero_or_pos i with e | e
    · subst e; exact .inr (by omega)
    · exact .inl (out_pos hf hn i e)
def prom (D : List (List Int)) (M : List Int) (pol : Int) : Int × Int × Bool :=
  let s := out (far D M pol) D.length D.length
  (s.1, s.2.1, decide (s.2.2 ≥ 0))
def lineM (l : List Int) : List (List Int) := l.map fun x => l.map fun y => mx (x - y) (y - x)
theorem prom_lives : prom (lineM [0, 1, 8, 9]) [] 1 = (0, 2, true) := by decide
end Go.Proofs.YtkldaoachbbhnaaF
