/- Heaps as lists: the plain laws. No condition. -/
import Derived.Test.YtlkaipmhjgfkpaaDoorK13
namespace Go.Proofs.YtlkaipmhjgfkpaaDoorK
set_option linter.unusedSimpArgs false
set_option linter.unusedVariables false

def swp {α : Type} (l : List α) (i k : Nat) : List α :=
  match l[i]?, l[k]? with
  | some x, some y => (l.set i y).set k x
  | _, _ => l
theorem swp_eq {α : Type} {l : List α} {i k : Nat} {x y : α} (hx : l[i]? = some x) (hy : l[k]? = some y) : swp l i k = (l.set i y).set k x := by unfold swp; rw [hx, hy]
theorem swp_len {α : Type} (l : List α) (i k : Nat) : (swp l i k).length = l.length := by
  unfold swp; split <;> simp
theorem swp_get {α : Type} {l : List α} {i k : Nat} (hi : i < l.length) (hk : k < l.length) (j : Nat) : (swp l i k)[j]? = if j = k then l[i]? else if j = i then l[k]? else l[j]? := by
  have hx : l[i]? = some l[i] := List.getElem?_eq_getElem hi
  have hy : l[k]? = some l[k] := List.getElem?_eq_getElem hk
  rw [swp_eq hx hy, List.getElem?_set]
  by_cases h1 : j = k
  · subst h1
    rw [if_pos rfl, if_pos rfl, if_pos (by simpa using hk), hx]
  · rw [if_neg (fun e => h1 e.symm), if_neg h1, List.getElem?_set]
    by_cases h2 : j = i
    · subst h2; rw [if_pos rfl, if_pos rfl, if_pos hi, hy]
    · rw [if_neg (fun e => h2 e.symm), if_neg h2]
theorem set_perm {α : Type} : ∀ {t : List α} {k : Nat} {x y : α}, t[k]? = some y → (y :: t.set k x).Perm (x :: t)
  | [], _, _, _, h => by cases h
  | z :: t, 0, x, y, h => by
    simp at h; subst h
    exact List.Perm.swap _ _ _
  | z :: t, k + 1, x, y, h => by
    simp only [List.set_cons_succ]
    exact (List.Perm.swap _ _ _).trans (((set_perm (t := t) (k := k) (by simpa using h)).cons z).trans (List.Perm.swap _ _ _))
theorem swp_perm0 {α : Type} : ∀ {l : List α} {i k : Nat} {x y : α}, l[i]? = some x → l[k]? = some y → ((l.set i y).set k x).Perm l
  | [], _, _, _, _, h, _ => by cases h
  | z :: t, 0, 0, x, y, h, h' => by
    simp at h h'; subst h; subst h'; exact List.Perm.refl _
  | z :: t, 0, k + 1, x, y, h, h' => by
    simp at h; subst h
    simp only [List.set_cons_zero, List.set_cons_succ]
    exact set_perm (by simpa using h')
  | z :: t, i + 1, 0, x, y, h, h' => by
    simp at h'; subst h'
    simp only [List.set_cons_zero, List.set_cons_succ]
    exact set_perm (by simpa using h)
  | z :: t, i + 1, k + 1, x, y, h, h' => by
    simp only [List.set_cons_succ]
    exact (swp_perm0 (by simpa using h) (by simpa using h')).cons z
theorem swp_perm {α : Type} (l : List α) (i k : Nat) : (swp l i k).Perm l := by
  unfold swp
  split
  · rename_i x y hx hy; exact swp_perm0 hx hy
  · exact List.Perm.refl _

/-- An order, as comparison tells it. -/
structure Tot {α : Type} (le : α → α → Prop) : Prop where
  tot : ∀ x y, le x y ∨ le y x
  tr : ∀ x y z, le x y → le y z → le x z
theorem Tot.refl {α : Type} {le : α → α → Prop} (t : Tot le) (x : α) : le x x := (t.tot x x).elim id id
def HeapL {α : Type} (le : α → α → Prop) (l : List α) : Prop := ∀ j x y, 0 < j → l[(j - 1) / 2]? = some x → l[j]? = some y → le x y
/-- A heap but for what stands above i. -/
structure UpOk {α : Type} (le : α → α → Prop) (l : List α) (i : Nat) : Prop where
  rest : ∀ j x y, 0 < j → j ≠ i → l[(j - 1) / 2]? = some x → l[j]? = some y → le x y
  over : ∀ j x y, 0 < j → 0 < i → (j - 1) / 2 = i → l[(i - 1) / 2]? = some x → l[j]? = some y → le x y
theorem UpOk.done {α : Type} {le : α → α → Prop} {l : List α} {i : Nat} (u : UpOk le l i) (h : i = 0 ∨ ∀ x y, l[(i - 1) / 2]? = some x → l[i]? = some y → le x y) : HeapL le l := by
  intro j x y hj hx hy
  by_cases e : j = i
  · subst e
    rcases h with h | h
    · omega
    · exact h x y hx hy
  · exact u.rest j x y hj e hx hy
theorem UpOk.step {α : Type} {le : α → α → Prop} (t : Tot le) {l : List α} {i : Nat} (u : UpOk le l i) (hi : 0 < i) (hl : i < l.length) {x y : α} (hx : l[(i - 1) / 2]? = some x) (hy : l[i]? = some y) (hn : ¬ le x y) : UpOk le (swp l i ((i - 1) / 2)) ((i - 1) / 2) := by
  have hyx : le y x := (t.tot x y).resolve_left hn
  have hp : (i - 1) / 2 < i := by omega
  have g := swp_get (l := l) hl (show (i - 1) / 2 < l.length by omega)
  constructor
  · intro j a b hj hne ha hb
    rw [g] at ha hb
    rw [if_neg hne] at hb
    by_cases e1 : j = i
    · subst e1
      rw [if_pos rfl] at ha
      rw [if_pos rfl] at hb
      rw [hy] at ha; rw [hx] at hb; cases ha; cases hb; exact hyx
    · rw [if_neg e1] at hb
      by_cases e2 : (j - 1) / 2 = (i - 1) / 2
      · rw [if_pos e2, hy] at ha; cases ha
        have := u.rest j x b hj e1 (by rw [e2]; exact hx) hb
        exact t.tr _ _ _ hyx this
      · rw [if_neg e2] at ha
        by_cases e3 : (j - 1) / 2 = i
        · rw [if_pos e3, hx] at ha; cases ha
          exact u.over j x b hj hi e3 hx hb
        · rw [if_neg e3] at ha
          exact u.rest j a b hj e1 ha hb
  · intro j a b hj hp0 hpar ha hb
    rw [g] at ha hb
    rw [if_neg (by omega), if_neg (by omega)] at ha
    have hax : le a x := u.rest ((i - 1) / 2) a x hp0 (by omega) ha hx
    rw [if_neg (by omega)] at hb
    by_cases e1 : j = i
    · rw [if_pos e1, hx] at hb; cases hb; exact hax
    · rw [if_neg e1] at hb
      exact t.tr _ _ _ hax (u.rest j x b hj e1 (by rw [hpar]; exact hx) hb)
theorem HeapL.snoc {α : Type} {le : α → α → Prop} {l : List α} (h : HeapL le l) (x : α) : UpOk le (l ++ [x]) l.length := by
  have lt : ∀ {j : Nat} {y : α}, (l ++ [x])[j]? = some y → j ≠ l.length → l[j]? = some y ∧ j < l.length := by
    intro j y hj hne
    have hlt : j < (l ++ [x]).length := (List.getElem?_eq_some_iff.1 hj).1
    simp at hlt
    have : j < l.length := by omega
    exact ⟨by rwa [List.getElem?_append_left this] at hj, this⟩
  constructor
  · intro j a b hj hne ha hb
    obtain ⟨hb, hl⟩ := lt hb hne
    obtain ⟨ha, _⟩ := lt ha (by omega)
    exact h j a b hj ha hb
  · intro j a b hj hi hpar ha hb
    have hlt : j < (l ++ [x]).length := (List.getElem?_eq_some_iff.1 hb).1
    simp at hlt; omega
/-- A heap but for what stands below i. -/
structure DownOk {α : Type} (le : α → α → Prop) (l : List α) (i : Nat) : Prop where
  rest : ∀ j x y, 0 < j → (j - 1) / 2 ≠ i → l[(j - 1) / 2]? = some x → l[j]? = some y → le x y
  over : ∀ j x y, 0 < j → 0 < i → (j - 1) / 2 = i → l[(i - 1) / 2]? = some x → l[j]? = some y → le x y
theorem DownOk.done {α : Type} {le : α → α → Prop} {l : List α} {i : Nat} (u : DownOk le l i) (h : ∀ j x y, 0 < j → (j - 1) / 2 = i → l[i]? = some x → l[j]? = some y → le x y) : HeapL le l := by
  intro j x y hj hx hy
  by_cases e : (j - 1) / 2 = i
  · exact h j x y hj e (by rw [← e]; exact hx) hy
  · exact u.rest j x y hj e hx hy
theorem DownOk.step {α : Type} {le : α → α → Prop} (t : Tot le) {l : List α} {i k : Nat} (u : DownOk le l i) (hk : 0 < k) (hpk : (k - 1) / 2 = i) (hl : k < l.length) {x : α} (hx : l[k]? = some x)
    (hmin : ∀ j y, 0 < j → (j - 1) / 2 = i → l[j]? = some y → le x y) (hmi : ∀ y, l[i]? = some y → le x y) : DownOk le (swp l i k) k := by
  have hik : i < k := by omega
  have g := swp_get (l := l) (show i < l.length by omega) hl
  constructor
  · intro j a b hj hne ha hb
    rw [g] at ha hb
    rw [if_neg hne] at ha
    by_cases e1 : j = k
    · subst e1
      rw [if_pos rfl] at hb
      rw [if_pos hpk, hx] at ha; cases ha
      exact hmi b hb
    · rw [if_neg e1] at hb
      by_cases e2 : (j - 1) / 2 = i
      · rw [if_pos e2, hx] at ha; cases ha
        rw [if_neg (by omega)] at hb
        exact hmin j b hj e2 hb
      · rw [if_neg e2] at ha
        by_cases e3 : j = i
        · rw [if_pos e3, hx] at hb; cases hb
          subst e3
          exact u.over k a x (by omega) hj hpk ha hx
        · rw [if_neg e3] at hb
          exact u.rest j a b hj e2 ha hb
  · intro j a b hj hk0 hpar ha hb
    rw [g] at ha hb
    rw [hpk, if_neg (by omega), if_pos rfl, hx] at ha; cases ha
    rw [if_neg (by omega), if_neg (by omega)] at hb
    exact u.rest j _ b hj (by omega) (by rw [hpar]; exact hx) hb
theorem HeapL.head {α : Type} {le : α → α → Prop} (t : Tot le) {l : List α} (h : HeapL le l) {x : α} (hx : l[0]? = some x) : ∀ (j : Nat) (y : α), l[j]? = some y → le x y := by
  intro j
  induction j using Nat.strongRecOn with
  | _ j ih =>
    intro y hy
    by_cases hj : j = 0
    · subst hj; rw [hx] at hy; cases hy; exact t.refl _
    · have hlt : j < l.length := (List.getElem?_eq_some_iff.1 hy).1
      have hp : l[(j - 1) / 2]? = some l[(j - 1) / 2] := List.getElem?_eq_getElem (by omega)
      exact t.tr _ _ _ (ih ((j - 1) / 2) (by omega) _ hp) (h j _ y (by omega) hp hy)
/-- The first and the last changed places, the last struck: a heap but for the top. -/
theorem HeapL.popped {α : Type} {le : α → α → Prop} {l : List α} (h : HeapL le l) (hl : 0 < l.length) : DownOk le ((swp l 0 (l.length - 1)).take (l.length - 1)) 0 := by
  have g := swp_get (l := l) hl (show l.length - 1 < l.length by omega)
  have lt : ∀ {j : Nat} {y : α}, ((swp l 0 (l.length - 1)).take (l.length - 1))[j]? = some y → j ≠ 0 → l[j]? = some y := by
    intro j y hj hne
    have hlt : j < ((swp l 0 (l.length - 1)).take (l.length - 1)).length := (List.getElem?_eq_some_iff.1 hj).1
    rw [List.length_take] at hlt
    rw [List.getElem?_take, if_pos (by omega), g, if_neg (by omega), if_neg hne] at hj
    exact hj
  constructor
  · intro j a b hj hne ha hb
    exact h j a b hj (lt ha hne) (lt hb (by omega))
  · intro j a b hj h0; omega
theorem popped_perm {α : Type} {l : List α} {x : α} (hx : l[0]? = some x) : (x :: (swp l 0 (l.length - 1)).take (l.length - 1)).Perm l := by
  have hl : 0 < l.length := (List.getElem?_eq_some_iff.1 hx).1
  have g := swp_get (l := l) hl (show l.length - 1 < l.length by omega) (l.length - 1)
  rw [if_pos rfl, hx] at g
  have hs : (swp l 0 (l.length - 1)).take (l.length - 1) ++ [x] = swp l 0 (l.length - 1) := by
    have := List.take_add_one (l := swp l 0 (l.length - 1)) (i := l.length - 1)
    rw [g, show l.length - 1 + 1 = (swp l 0 (l.length - 1)).length by rw [swp_len]; omega, List.take_length] at this
    exact this.symm
  refine ((List.perm_append_singleton x _).symm.trans ?_)
  rw [hs]
  exact swp_perm _ _ _
end Go.Proofs.YtlkaipmhjgfkpaaDoorK
