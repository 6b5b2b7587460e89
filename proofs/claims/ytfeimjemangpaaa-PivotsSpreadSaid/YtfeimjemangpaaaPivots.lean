/- Chapter 19: the functions of pivots, and of the document's pivots. No condition. -/
import Derived.Test.YtfeimjemangpaaaObs
namespace Go.Proofs.YtfeimjemangpaaaF
open Go Go.Proofs.YtfeimjemangpaaaK
set_option linter.unusedSimpArgs false
set_option linter.unusedVariables false

/-! Plain: how far a thing is from the nearest of some places. -/
abbrev BIG : Int := 1125899906842624
def mn (d n : Int) : Int := if d < n then d else n
def nstep (m : Int) (l : List Ob) (x : Ob) (n i : Int) : Int := if 0 ≤ i then (match l[i.toNat]? with | some o => mn (od m o x) n | none => n) else n
def near (m : Int) (l : List Ob) (c : List Int) (x : Ob) : Int := c.foldl (nstep m l x) BIG
theorem near_snoc (m : Int) (l : List Ob) (c : List Int) (i : Int) (x : Ob) : near m l (c ++ [i]) x = nstep m l x (near m l c x) i := by unfold near; rw [List.foldl_append]; rfl
theorem nstep_in {m : Int} {l : List Ob} {i : Int} {o x : Ob} {n : Int} (h0 : 0 ≤ i) (ho : l[i.toNat]? = some o) : nstep m l x n i = mn (od m o x) n := by
  unfold nstep; rw [if_pos h0, ho]
theorem nstep_out {m : Int} {l : List Ob} {i : Int} {x : Ob} {n : Int} (h : ¬ (0 ≤ i ∧ i < (l.length : Int))) : nstep m l x n i = n := by
  unfold nstep
  by_cases h0 : 0 ≤ i
  · rw [if_pos h0, List.getElem?_eq_none (by omega)]
  · rw [if_neg h0]
theorem nstep_le (m : Int) (l : List Ob) (x : Ob) (n i : Int) : nstep m l x n i ≤ n := by
  unfold nstep mn
  (repeat' split) <;> omega
theorem near_nn (m : Int) (l : List Ob) (x : Ob) : ∀ (c : List Int), 0 ≤ near m l c x := by
  intro c
  have : ∀ (c : List Int) (n : Int), 0 ≤ n → 0 ≤ c.foldl (nstep m l x) n := by
    intro c
    induction c with
    | nil => intro n h; exact h
    | cons i c ih =>
      intro n h
      rw [List.foldl_cons]
      apply ih
      unfold nstep mn
      split
      · split
        · next o _ => have := od_nn m o x; split <;> omega
        · exact h
      · exact h
  exact this c BIG (by decide)
theorem near_append (m : Int) (l : List Ob) (x : Ob) (c : List Int) : ∀ d : List Int, near m l (c ++ d) x ≤ near m l c x := by
  intro d
  unfold near
  rw [List.foldl_append]
  generalize c.foldl (nstep m l x) BIG = n
  induction d generalizing n with
  | nil => exact Int.le_refl _
  | cons i d ih => rw [List.foldl_cons]; exact Int.le_trans (ih _) (nstep_le _ _ _ _ _)
theorem near_le {m : Int} {l : List Ob} {x : Ob} {c : List Int} {j : Nat} {i : Int} {o : Ob} (hj : c[j]? = some i) (h0 : 0 ≤ i) (ho : l[i.toNat]? = some o) : near m l c x ≤ od m o x := by
  have hsp : c = c.take j ++ i :: c.drop (j + 1) := by
    have := List.take_append_drop j c
    rw [List.drop_eq_getElem_cons (List.getElem?_eq_some_iff.1 hj).1, (List.getElem?_eq_some_iff.1 hj).2] at this
    exact this.symm
  rw [hsp, show c.take j ++ i :: c.drop (j + 1) = (c.take j ++ [i]) ++ c.drop (j + 1) by simp]
  refine Int.le_trans (near_append _ _ _ _ _) ?_
  rw [near_snoc, nstep_in h0 ho]
  unfold mn; split <;> omega
/-- How far each thing is. -/
def nears (m : Int) (l : List Ob) (c : List Int) : List Int := l.map (near m l c)
theorem nears_len (m : Int) (l : List Ob) (c : List Int) : (nears m l c).length = l.length := by simp [nears]
theorem nears_get {m : Int} {l : List Ob} {c : List Int} {k : Nat} {o : Ob} (h : l[k]? = some o) : (nears m l c)[k]? = some (near m l c o) := by simp [nears, h]
theorem nears_nil (m : Int) (l : List Ob) : nears m l [] = List.replicate l.length BIG := by
  exact List.map_const' .. 
def clos (m : Int) (x : Ob) (l : List Ob) (ls : List Int) : List Int := List.zipWith (fun y n => mn (od m x y) n) l ls
theorem clos_nears {m : Int} {l : List Ob} {c : List Int} {i : Int} {x : Ob} (h0 : 0 ≤ i) (hx : l[i.toNat]? = some x) : clos m x l (nears m l c) = nears m l (c ++ [i]) := by
  unfold clos nears
  rw [List.zipWith_map_right]
  have : ∀ (l' : List Ob), List.zipWith (fun y z => mn (od m x y) (near m l c z)) l' l' = l'.map (near m l (c ++ [i])) := by
    intro l'
    induction l' with
    | nil => rfl
    | cons y l' ih => rw [List.zipWith_cons_cons, ih, List.map_cons, near_snoc, nstep_in h0 hx]
  exact this l
theorem clos_len {m : Int} {x : Ob} {l : List Ob} {ls : List Int} (h : ls.length = l.length) : (clos m x l ls).length = l.length := by unfold clos; rw [List.length_zipWith]; omega
theorem clos_get {m : Int} {x : Ob} {l : List Ob} {ls : List Int} {k : Nat} {y : Ob} {n : Int} (hy : l[k]? = some y) (hn : ls[k]? = some n) : (clos m x l ls)[k]? = some (mn (od m x y) n) := by
  unfold clos; rw [List.getElem?_zipWith, hy, hn]
/-- The first place of the greatest number. -/
structure FarAt (ls : List Int) (i : Nat) (v : Int) : Prop where
  at_ : ls[i]? = some v
  fst : ∀ (j : Nat) (x : Int), j < i → ls[j]? = some x → x < v
  top : ∀ (j : Nat) (x : Int), ls[j]? = some x → x ≤ v
theorem FarAt.uniq {ls : List Int} {i j : Nat} {v w : Int} (a : FarAt ls i v) (b : FarAt ls j w) : i = j ∧ v = w := by
  have h1 := a.top _ _ b.at_
  have h2 := b.top _ _ a.at_
  refine ⟨?_, by omega⟩
  rcases Nat.lt_trichotomy i j with h | h | h
  · have := b.fst _ _ h a.at_; omega
  · exact h
  · have := a.fst _ _ h b.at_; omega
theorem far_ex : ∀ ls : List Int, ls ≠ [] → ∃ i v, FarAt ls i v := by
  intro ls
  have key : ∀ n, 0 < n → n ≤ ls.length → ∃ i v, FarAt (ls.take n) i v := by
    intro n
    induction n with
    | zero => intro h; omega
    | succ n ih =>
      intro _ hn
      have hl : ls[n]? = some ls[n] := List.getElem?_eq_getElem (by omega)
      by_cases h0 : n = 0
      · subst h0
        refine ⟨0, ls[0], ⟨by simp [hl], fun j x h => by omega, fun j x hx => ?_⟩⟩
        rw [List.getElem?_take] at hx
        split at hx
        · have : j = 0 := by omega
          subst this; rw [hl] at hx; cases hx; exact Int.le_refl _
        · cases hx
      · obtain ⟨i, v, f⟩ := ih (by omega) (by omega)
        have hil := (List.getElem?_eq_some_iff.1 f.at_).1
        rw [List.length_take] at hil
        rw [← take_snoc hl]
        have spl : ∀ (j : Nat) (x : Int), (ls.take n ++ [ls[n]])[j]? = some x → (ls.take n)[j]? = some x ∨ (j = n ∧ x = ls[n]) := by
          intro j x hx
          by_cases hj : j < (ls.take n).length
          · rw [List.getElem?_append_left hj] at hx; exact .inl hx
          · rw [List.getElem?_append_right (by omega)] at hx
            rw [List.length_take] at hj hx
            have hj1 := (List.getElem?_eq_some_iff.1 hx).1
            simp at hj1
            have : j - min n ls.length = 0 := by omega
            rw [this] at hx
            simp at hx
            exact .inr ⟨by omega, hx.symm⟩
        by_cases hv : v < ls[n]
        · refine ⟨n, ls[n], ⟨by rw [List.getElem?_append_right (by rw [List.length_take]; omega), List.length_take]; simp [show n - min n ls.length = 0 by omega], fun j x hj hx => ?_, fun j x hx => ?_⟩⟩
          · rcases spl j x hx with h | ⟨h, _⟩
            · have := f.top _ _ h; omega
            · omega
          · rcases spl j x hx with h | ⟨_, h⟩
            · have := f.top _ _ h; omega
            · omega
        · refine ⟨i, v, ⟨by rw [List.getElem?_append_left (by rw [List.length_take]; omega)]; exact f.at_, fun j x hj hx => ?_, fun j x hx => ?_⟩⟩
          · rcases spl j x hx with h | ⟨h, _⟩
            · exact f.fst _ _ hj h
            · omega
          · rcases spl j x hx with h | ⟨_, h⟩
            · exact f.top _ _ h
            · omega
  intro hne
  have := key ls.length (List.length_pos_iff.2 hne) (Nat.le_refl _)
  rwa [List.take_length] at this

/-! Plain: the choice. -/
/-- What comes next: a place, or none. -/
def Nxt (m : Int) (l : List Ob) (st : Int) (out : List Int) (o : Option Int) : Prop :=
  (out = [] ∧ o = some st) ∨ (out ≠ [] ∧ ∃ i v, FarAt (nears m l out) i v ∧ ((v = 0 ∧ o = none) ∨ (v ≠ 0 ∧ o = some (i : Int))))
theorem Nxt.uniq {m : Int} {l : List Ob} {st : Int} {out : List Int} {o o' : Option Int} (a : Nxt m l st out o) (b : Nxt m l st out o') : o = o' := by
  rcases a with ⟨h, e⟩ | ⟨h, i, v, f, e⟩ <;> rcases b with ⟨h', e'⟩ | ⟨h', i', v', f', e'⟩
  · rw [e, e']
  · exact absurd h h'
  · exact absurd h' h
  · obtain ⟨rfl, rfl⟩ := f.uniq f'
    rcases e with ⟨e1, e2⟩ | ⟨e1, e2⟩ <;> rcases e' with ⟨e3, e4⟩ | ⟨e3, e4⟩
    · rw [e2, e4]
    · exact absurd e1 e3
    · exact absurd e3 e1
    · rw [e2, e4]
inductive Run (m : Int) (l : List Ob) (st p : Int) : List Int → List Int → Prop
  | full {out : List Int} : ¬ ((out.length : Int) < p) → Run m l st p out out
  | stop {out : List Int} : Nxt m l st out none → Run m l st p out out
  | go {out r : List Int} {n : Int} : (out.length : Int) < p → Nxt m l st out (some n) → Run m l st p (out ++ [n]) r → Run m l st p out r
structure Good (m : Int) (l : List Ob) (out : List Int) : Prop where
  nd : out.Nodup
  rng : ∀ i ∈ out, 0 ≤ i ∧ i < (l.length : Int)
  dec : ∀ (j : Nat) (i : Int) (o : Ob), 0 < j → out[j]? = some i → l[i.toNat]? = some o → ∀ x ∈ l, near m l (out.take j) x ≤ near m l (out.take j) o
theorem Good.nil (m : Int) (l : List Ob) : Good m l [] := ⟨List.nodup_nil, fun i h => (by cases h), fun j i o _ h => (by simp at h)⟩
theorem Nxt.rng {m : Int} {l : List Ob} {st : Int} {out : List Int} {n : Int} (hs : 0 ≤ st ∧ st < (l.length : Int)) (a : Nxt m l st out (some n)) : 0 ≤ n ∧ n < (l.length : Int) := by
  rcases a with ⟨h, e⟩ | ⟨h, i, v, f, e⟩
  · cases e; exact hs
  · rcases e with ⟨_, e⟩ | ⟨_, e⟩
    · cases e
    · cases e
      have := (List.getElem?_eq_some_iff.1 f.at_).1
      rw [nears_len] at this
      omega
theorem Good.snoc {m : Int} {l : List Ob} {st : Int} {out : List Int} {n : Int} (hs : 0 ≤ st ∧ st < (l.length : Int)) (g : Good m l out) (a : Nxt m l st out (some n)) : Good m l (out ++ [n]) := by
  have hr := a.rng hs
  refine ⟨?_, fun i hi => ?_, fun j i o hj hi ho x hx => ?_⟩
  · rw [List.nodup_append]
    refine ⟨g.nd, by simp, fun x hx y hy => ?_⟩
    simp at hy
    subst hy
    intro e
    subst e
    rcases a with ⟨h, e⟩ | ⟨h, i, v, f, e⟩
    · subst h; cases hx
    · rcases e with ⟨_, e⟩ | ⟨hv, e⟩
      · cases e
      · cases e
        have hil := (List.getElem?_eq_some_iff.1 f.at_).1
        rw [nears_len] at hil
        have ho : l[i]? = some l[i] := List.getElem?_eq_getElem hil
        have hat := f.at_
        rw [nears_get ho] at hat
        obtain ⟨j, hj⟩ := List.getElem?_of_mem hx
        have h1 := near_le (m := m) (x := l[i]) hj (by omega) (by rw [Int.toNat_natCast]; exact ho)
        rw [od_self] at h1
        have h2 := near_nn m l l[i] out
        injection hat with hat
        omega
  · rcases List.mem_append.1 hi with h | h
    · exact g.rng i h
    · simp at h; subst h; exact hr
  · by_cases hjl : j < out.length
    · rw [List.getElem?_append_left hjl] at hi
      rw [List.take_append_of_le_length (by omega)]
      exact g.dec j i o hj hi ho x hx
    · have hj1 := (List.getElem?_eq_some_iff.1 hi).1
      rw [List.length_append] at hj1
      simp at hj1
      obtain rfl : j = out.length := by omega
      rw [List.getElem?_append_right (by omega)] at hi
      simp at hi
      subst hi
      rw [List.take_append_of_le_length (by omega), List.take_length]
      rcases a with ⟨h, e⟩ | ⟨h, i, v, f, e⟩
      · subst h; simp at hj
      · rcases e with ⟨_, e⟩ | ⟨hv, e⟩
        · cases e
        · cases e
          rw [Int.toNat_natCast] at ho
          have hat := f.at_
          rw [nears_get ho] at hat
          injection hat with hat
          obtain ⟨k, hk⟩ := List.getElem?_of_mem hx
          have := f.top _ _ (nears_get (m := m) (c := out) hk)
          omega
theorem Good.len {m : Int} {l : List Ob} {out : List Int} (g : Good m l out) : out.length ≤ l.length := by
  have h1 : (out.map Int.toNat).Nodup := by
    unfold List.Nodup at *
    rw [List.pairwise_map]
    refine g.nd.imp_of_mem fun {a b} ha hb hne => ?_
    have := g.rng a ha
    have := g.rng b hb
    omega
  have h2 := h1.length_le_of_subset (l₂ := List.range l.length) fun i hi => by
    obtain ⟨a, ha, rfl⟩ := List.mem_map.1 hi
    have := g.rng a ha
    rw [List.mem_range]; omega
  simpa using h2
theorem nxt_ex (m : Int) (l : List Ob) (st : Int) (out : List Int) (hl : l ≠ []) : ∃ o, Nxt m l st out o := by
  by_cases h : out = []
  · exact ⟨_, .inl ⟨h, rfl⟩⟩
  · obtain ⟨i, v, f⟩ := far_ex (nears m l out) (by intro e; have := nears_len m l out; rw [e] at this; exact hl (List.length_eq_zero_iff.1 this.symm))
    by_cases hv : v = 0
    · exact ⟨none, .inr ⟨h, i, v, f, .inl ⟨hv, rfl⟩⟩⟩
    · exact ⟨some i, .inr ⟨h, i, v, f, .inr ⟨hv, rfl⟩⟩⟩
theorem run_ex {m : Int} {l : List Ob} {st p : Int} (hs : 0 ≤ st ∧ st < (l.length : Int)) : ∀ (k : Nat) (out : List Int), Good m l out → out.length + k = l.length + 1 → ∃ r, Run m l st p out r ∧ Good m l r
  | 0, out, g, h => by have := g.len; omega
  | k + 1, out, g, h => by
    by_cases hp : (out.length : Int) < p
    · obtain ⟨o, ho⟩ := nxt_ex m l st out (by intro e; rw [e] at hs; simp at hs; omega)
      cases o with
      | none => exact ⟨out, .stop ho, g⟩
      | some n =>
        obtain ⟨r, hr, gr⟩ := run_ex hs k (out ++ [n]) (g.snoc hs ho) (by simp; omega)
        exact ⟨r, .go hp ho hr, gr⟩
    · exact ⟨out, .full hp, g⟩
end Go.Proofs.YtfeimjemangpaaaF
