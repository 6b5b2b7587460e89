/- Ways of edits: which one is told, what becomes by one. No condition. -/
import Derived.Test.YtibaekemfefoaaaLevPure
namespace Go.Proofs.YtibaekemfefoaaaK
set_option linter.unusedSimpArgs false
set_option linter.unusedVariables false

def wayN : Nat → List Int → List Int → List Int
  | 0, _, _ => []
  | _ + 1, [], [] => []
  | n + 1, x :: xs, [] => 45 :: wayN n xs []
  | n + 1, [], y :: ys => 43 :: wayN n [] ys
  | n + 1, x :: xs, y :: ys => if x = y then 61 :: wayN n xs ys else if ed xs ys + 1 = ed (x :: xs) (y :: ys) then 33 :: wayN n xs ys else
      if ed xs (y :: ys) + 1 = ed (x :: xs) (y :: ys) then 45 :: wayN n xs (y :: ys) else 43 :: wayN n (x :: xs) ys
theorem wayN_more : ∀ (n m : Nat) (a b : List Int), a.length + b.length ≤ n → a.length + b.length ≤ m → wayN n a b = wayN m a b
  | 0, 0, _, _, _, _ => rfl
  | 0, m + 1, [], [], _, _ => rfl
  | n + 1, 0, [], [], _, _ => rfl
  | 0, _, x :: xs, _, h, _ => by simp at h
  | 0, _, [], y :: ys, h, _ => by simp at h
  | _, 0, x :: xs, _, _, h => by simp at h
  | _, 0, [], y :: ys, _, h => by simp at h
  | n + 1, m + 1, [], [], _, _ => rfl
  | n + 1, m + 1, x :: xs, [], h1, h2 => by
    simp only [List.length_cons, List.length_nil] at h1 h2
    simp only [wayN]; rw [wayN_more n m xs [] (by simp; omega) (by simp; omega)]
  | n + 1, m + 1, [], y :: ys, h1, h2 => by
    simp only [List.length_cons, List.length_nil] at h1 h2
    simp only [wayN]; rw [wayN_more n m [] ys (by simp; omega) (by simp; omega)]
  | n + 1, m + 1, x :: xs, y :: ys, h1, h2 => by
    simp only [List.length_cons] at h1 h2
    simp only [wayN]
    rw [wayN_more n m xs ys (by omega) (by omega), wayN_more n m xs (y :: ys) (by simp; omega) (by simp; omega), wayN_more n m (x :: xs) ys (by simp; omega) (by simp; omega)]
def way (a b : List Int) : List Int := wayN (a.length + b.length) a b
theorem way_nil : way [] [] = [] := rfl
theorem way_left (x : Int) (xs : List Int) : way (x :: xs) [] = 45 :: way xs [] := by
  show wayN (xs.length + 1 + 0) (x :: xs) [] = _
  rw [show xs.length + 1 + 0 = (xs.length + 0) + 1 by omega]; rfl
theorem way_right (y : Int) (ys : List Int) : way [] (y :: ys) = 43 :: way [] ys := by
  show wayN (0 + (ys.length + 1)) [] (y :: ys) = _
  rw [show 0 + (ys.length + 1) = (0 + ys.length) + 1 by omega]; rfl
theorem way_cons (x y : Int) (xs ys : List Int) : way (x :: xs) (y :: ys) = if x = y then 61 :: way xs ys else if ed xs ys + 1 = ed (x :: xs) (y :: ys) then 33 :: way xs ys else
      if ed xs (y :: ys) + 1 = ed (x :: xs) (y :: ys) then 45 :: way xs (y :: ys) else 43 :: way (x :: xs) ys := by
  show wayN ((xs.length + 1) + (ys.length + 1)) (x :: xs) (y :: ys) = _
  rw [show (xs.length + 1) + (ys.length + 1) = (xs.length + ys.length + 1) + 1 by omega]
  simp only [wayN]
  rw [wayN_more _ (xs.length + ys.length) xs ys (by omega) (Nat.le_refl _)]
  rw [show wayN (xs.length + ys.length + 1) xs (y :: ys) = way xs (y :: ys) from wayN_more _ _ _ _ (by simp; omega) (Nat.le_refl _)]
  rw [show wayN (xs.length + ys.length + 1) (x :: xs) ys = way (x :: xs) ys from wayN_more _ _ _ _ (by simp; omega) (Nat.le_refl _)]
  rfl
theorem ed_third {x y : Int} {xs ys : List Int} (h : x ≠ y) (h1 : ed xs ys + 1 ≠ ed (x :: xs) (y :: ys)) (h2 : ed xs (y :: ys) + 1 ≠ ed (x :: xs) (y :: ys)) : ed (x :: xs) ys + 1 = ed (x :: xs) (y :: ys) := by
  have := ed_cons x y xs ys
  have hb : bne1 x y = 1 := by unfold bne1; rw [if_neg h]
  rw [hb] at this
  omega
/-- How many edits a way has. -/
def wayc (l : List Int) : Nat := (l.filter fun c => c != 61).length
theorem wayc_cons (c : Int) (l : List Int) : wayc (c :: l) = (if c = 61 then 0 else 1) + wayc l := by
  unfold wayc
  rw [List.filter_cons]
  by_cases h : c = 61
  · subst h; simp
  · rw [if_pos (by simpa using h), if_neg h, List.length_cons]; omega
theorem way_count : ∀ (n : Nat) (a b : List Int), a.length + b.length ≤ n → wayc (way a b) = ed a b ∧ (way a b).length ≤ a.length + b.length
  | _, [], [], _ => by rw [way_nil]; exact ⟨rfl, Nat.le_refl _⟩
  | 0, x :: xs, _, h => by simp at h
  | 0, [], y :: ys, h => by simp at h
  | n + 1, x :: xs, [], h => by
    have := way_count n xs [] (by simp at h ⊢; omega)
    rw [way_left, wayc_cons, this.1, ed_left, ed_left]
    have h2 := this.2
    simp only [List.length_cons] at *
    exact ⟨by rw [if_neg (by decide)]; omega, by omega⟩
  | n + 1, [], y :: ys, h => by
    have := way_count n [] ys (by simp at h ⊢; omega)
    rw [way_right, wayc_cons, this.1, ed_nil, ed_nil]
    have h2 := this.2
    simp only [List.length_cons] at *
    exact ⟨by rw [if_neg (by decide)]; omega, by omega⟩
  | n + 1, x :: xs, y :: ys, h => by
    simp only [List.length_cons] at h
    have i1 := way_count n xs ys (by omega)
    have i2 := way_count n xs (y :: ys) (by simp; omega)
    have i3 := way_count n (x :: xs) ys (by simp; omega)
    simp only [List.length_cons] at i2 i3
    rw [way_cons]
    split
    · rename_i e
      subst e
      rw [wayc_cons, i1.1, ed_same, if_pos rfl]
      simp only [List.length_cons]
      omega
    · rename_i hne
      split
      · rename_i e; rw [wayc_cons, i1.1, if_neg (by decide)]; simp only [List.length_cons]; omega
      · rename_i e1
        split
        · rename_i e; rw [wayc_cons, i2.1, if_neg (by decide)]; simp only [List.length_cons]; omega
        · rename_i e2
          have := ed_third hne e1 e2
          rw [wayc_cons, i3.1, if_neg (by decide)]; simp only [List.length_cons]; omega
/-- What becomes by a way. -/
def runA : List Int → List Int → List Int → List Int → Option (List Int)
  | a, b, out, [] => if a = [] ∧ b = [] then some out else none
  | a, b, out, c :: e =>
    if c = 61 ∨ c = 33 then
      match a, b with
      | x :: a', y :: b' => if (x = y ↔ c = 61) then runA a' b' (out ++ [y]) e else none
      | _, _ => none
    else if c = 45 then
      match a with
      | _ :: a' => runA a' b out e
      | [] => none
    else if c = 43 then
      match b with
      | y :: b' => runA a b' (out ++ [y]) e
      | [] => none
    else none
theorem runA_way : ∀ (n : Nat) (a b out : List Int), a.length + b.length ≤ n → runA a b out (way a b) = some (out ++ b)
  | _, [], [], out, _ => by rw [way_nil]; simp [runA]
  | 0, x :: xs, _, _, h => by simp at h
  | 0, [], y :: ys, _, h => by simp at h
  | n + 1, x :: xs, [], out, h => by
    rw [way_left]
    simp only [runA]
    rw [if_neg (by decide), if_pos trivial]
    exact runA_way n xs [] out (by simp at h ⊢; omega)
  | n + 1, [], y :: ys, out, h => by
    rw [way_right]
    simp only [runA]
    rw [if_neg (by decide), if_neg (by decide), if_pos trivial, runA_way n [] ys _ (by simp at h ⊢; omega)]
    simp
  | n + 1, x :: xs, y :: ys, out, h => by
    simp only [List.length_cons] at h
    rw [way_cons]
    split
    · rename_i e
      simp only [runA]
      rw [if_pos (by decide), if_pos (by simp [e]), runA_way n xs ys _ (by omega)]
      simp
    · rename_i hne
      split
      · simp only [runA]
        rw [if_pos (by decide), if_pos (by simp [hne]), runA_way n xs ys _ (by omega)]
        simp
      · split
        · simp only [runA]
          rw [if_neg (by decide), if_pos trivial]
          exact runA_way n xs (y :: ys) out (by simp; omega)
        · simp only [runA]
          rw [if_neg (by decide), if_neg (by decide), if_pos trivial, runA_way n (x :: xs) ys _ (by simp; omega)]
          simp
/-! Texts without what is alike at their ends. -/
structure TrimOf (a b c d : List Int) : Prop where
  ex : ∃ p q, a = p ++ c ++ q ∧ b = p ++ d ++ q ∧ (∀ x, ¬ ((c ++ q).head? = some x ∧ (d ++ q).head? = some x)) ∧ ∀ x, ¬ (c.getLast? = some x ∧ d.getLast? = some x)
theorem pre_one : ∀ {p p2 c d c2 d2 : List Int}, p ++ c = p2 ++ c2 → p ++ d = p2 ++ d2 → (∀ x, ¬ (c.head? = some x ∧ d.head? = some x)) → (∀ x, ¬ (c2.head? = some x ∧ d2.head? = some x)) → c = c2 ∧ d = d2
  | [], [], c, d, c2, d2, h1, h2, _, _ => ⟨h1, h2⟩
  | [], x :: p2, c, d, c2, d2, h1, h2, h3, _ => (h3 x (by simp at h1 h2; simp [h1, h2])).elim
  | x :: p, [], c, d, c2, d2, h1, h2, _, h4 => (h4 x (by simp at h1 h2; simp [← h1, ← h2])).elim
  | x :: p, y :: p2, c, d, c2, d2, h1, h2, h3, h4 => by
    simp only [List.cons_append, List.cons.injEq] at h1 h2
    exact pre_one h1.2 h2.2 h3 h4
theorem TrimOf.one {a b c d c2 d2 : List Int} (h : TrimOf a b c d) (h' : TrimOf a b c2 d2) : c = c2 ∧ d = d2 := by
  obtain ⟨p, q, h1, h2, h3, h4⟩ := h.ex
  obtain ⟨p2, q2, h1', h2', h3', h4'⟩ := h'.ex
  obtain ⟨e1, e2⟩ := pre_one (p := p) (p2 := p2) (c := c ++ q) (d := d ++ q) (c2 := c2 ++ q2) (d2 := d2 ++ q2) (by rw [← List.append_assoc, ← List.append_assoc, ← h1, h1']) (by rw [← List.append_assoc, ← List.append_assoc, ← h2, h2']) h3 h3'
  have r1 := congrArg List.reverse e1
  have r2 := congrArg List.reverse e2
  simp only [List.reverse_append] at r1 r2
  have := pre_one r1 r2 (by simpa using h4) (by simpa using h4')
  exact ⟨List.reverse_inj.1 this.1, List.reverse_inj.1 this.2⟩
end Go.Proofs.YtibaekemfefoaaaK
