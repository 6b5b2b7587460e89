/- Chapter 18: ranks of different things. No condition. -/
import Derived.Test.YtpcbppicjoolfaaCmpInt
import Derived.Test.YtpcbppicjoolfaaK17
import Derived.Test.YtpcbppicjoolfaaSortPure
namespace Go.Proofs.YtpcbppicjoolfaaF
open Go Go.Proofs.YtpcbppicjoolfaaK
set_option linter.unusedSimpArgs false
set_option linter.unusedVariables false

abbrev FT : List At := [.int .i64, .int .i64]
theorem encFT : Enc (vsA FT) 2 := encA rfl
abbrev fAt (x : StA FT) : Int := x.1
abbrev fDi (x : StA FT) : Int := x.2.1
def flt (x y : StA FT) : Bool := decide (fDi x < fDi y) || (decide (fDi x = fDi y) && decide (fAt x < fAt y))
def fcmp (x y : StA FT) : Int := if cmpI (fDi x) (fDi y) ≠ 0 then cmpI (fDi x) (fDi y) else cmpI (fAt x) (fAt y)
theorem far_ext {x y : StA FT} (h1 : fAt x = fAt y) (h2 : fDi x = fDi y) : x = y := by
  obtain ⟨a, b, ⟨⟩⟩ := x
  obtain ⟨c, d, ⟨⟩⟩ := y
  have h1 : a = c := h1
  have h2 : b = d := h2
  subst h1; subst h2; rfl
theorem flt_iff {x y : StA FT} : flt x y = true ↔ fDi x < fDi y ∨ fDi x = fDi y ∧ fAt x < fAt y := by unfold flt; simp
theorem flt_no {x y : StA FT} : flt x y = false ↔ fDi y < fDi x ∨ fDi x = fDi y ∧ fAt y ≤ fAt x := by
  rw [← Bool.not_eq_true, flt_iff]; omega
theorem fcmp_lt {x y : StA FT} : fcmp x y < 0 ↔ flt x y = true := by
  rw [flt_iff]; unfold fcmp cmpI
  (repeat' split) <;> omega
theorem fcmp_gt {x y : StA FT} : fcmp x y > 0 ↔ flt y x = true := by
  rw [flt_iff]; unfold fcmp cmpI
  (repeat' split) <;> omega
theorem fltOk : LtOk flt := by
  refine ⟨fun x y h => ?_, fun x y z h1 h2 => ?_, fun x y h1 h2 => ?_⟩
  · rw [flt_iff] at h; rw [flt_no]; omega
  · rw [flt_no] at *; omega
  · rw [flt_no] at *; exact far_ext (by omega) (by omega)
theorem fltOf (x y : StA FT) : Go.Proofs.ltOf fcmp x y = flt x y := by
  unfold Go.Proofs.ltOf
  by_cases h : flt x y = true
  · rw [h, decide_eq_true (fcmp_lt.2 h)]
  · rw [Bool.not_eq_true] at h
    rw [h, decide_eq_false fun hn => by rw [fcmp_lt.1 hn] at h; cases h]
theorem fSWO : Go.Sort.SWO (Go.Proofs.ltOf fcmp) where
  irrefl x := by rw [fltOf, flt_no]; omega
  trans x y z h1 h2 := by rw [fltOf, flt_iff] at *; omega
  ntrans x y z h1 h2 := by rw [fltOf, flt_no] at *; omega
theorem flt_irr (x : StA FT) : flt x x = false := by rw [flt_no]; omega
theorem flt_trans {x y z : StA FT} (h1 : flt x y = true) (h2 : flt y z = true) : flt x z = true := by rw [flt_iff] at *; omega
theorem flt_tri {x y : StA FT} (h : x ≠ y) : flt x y = true ∨ flt y x = true := by
  cases h1 : flt x y with
  | true => exact .inl rfl
  | false =>
    cases h2 : flt y x with
    | true => exact .inr rfl
    | false => exact (h (fltOk.eq x y h1 h2)).elim
theorem flt_asym {x y : StA FT} (h : flt x y = true) : flt y x = false := fltOk.asym _ _ h
/-- How many are ahead of one. -/
def rank (l : List (StA FT)) (x : StA FT) : Nat := (l.filter fun y => flt y x).length
abbrev bel (l : List (StA FT)) (p : StA FT) : List (StA FT) := l.filter fun y => flt y p
abbrev abv (l : List (StA FT)) (p : StA FT) : List (StA FT) := l.filter fun y => flt p y
theorem part_none : ∀ {m : List (StA FT)} {p : StA FT}, p ∉ m → m.length = (bel m p).length + (abv m p).length
  | [], p, _ => rfl
  | x :: m, p, h => by
    have ih := part_none (m := m) (p := p) fun hm => h (by simp [hm])
    have hne : x ≠ p := fun e => h (by simp [e])
    simp only [List.filter_cons]
    rcases flt_tri hne with h1 | h1
    · rw [if_pos h1, if_neg (by rw [flt_asym h1]; simp)]; simp only [List.length_cons]; (try dsimp only [bel, abv] at *); omega
    · rw [if_neg (by rw [flt_asym h1]; simp), if_pos h1]; simp only [List.length_cons]; (try dsimp only [bel, abv] at *); omega
theorem part_len : ∀ {m : List (StA FT)} {p : StA FT}, m.Nodup → p ∈ m → m.length = (bel m p).length + 1 + (abv m p).length
  | [], p, _, h => by cases h
  | x :: m, p, hn, h => by
    obtain ⟨h1, h2⟩ := List.nodup_cons.1 hn
    by_cases e : x = p
    · subst e
      have := part_none h1
      simp only [List.filter_cons, flt_irr, Bool.false_eq_true, if_false, List.length_cons]
      dsimp only [bel, abv] at *
      omega
    · have hm : p ∈ m := by
        rcases List.mem_cons.1 h with h | h
        · exact (e h.symm).elim
        · exact h
      have ih := part_len h2 hm
      simp only [List.filter_cons]
      rcases flt_tri e with h3 | h3
      · rw [if_pos h3, if_neg (by rw [flt_asym h3]; simp)]; simp only [List.length_cons]; (try dsimp only [bel, abv] at *); omega
      · rw [if_neg (by rw [flt_asym h3]; simp), if_pos h3]; simp only [List.length_cons]; (try dsimp only [bel, abv] at *); omega
theorem rank_bel {m : List (StA FT)} {p x : StA FT} (h : flt x p = true) : rank (bel m p) x = rank m x := by
  unfold rank bel
  rw [List.filter_filter]
  congr 1
  apply List.filter_congr
  intro y _
  cases hy : flt y x with
  | true => rw [flt_trans hy h]; rfl
  | false => rfl
theorem rank_abv {m : List (StA FT)} {p x : StA FT} (hn : m.Nodup) (hp : p ∈ m) (h : flt p x = true) : rank m x = rank m p + 1 + rank (abv m p) x := by
  have hpm : p ∈ bel m x := List.mem_filter.2 ⟨hp, h⟩
  have := part_len (m := bel m x) (hn.filter _) hpm
  unfold rank
  rw [this]
  congr 1
  · congr 1
    unfold bel
    rw [List.filter_filter]
    congr 1
    apply List.filter_congr
    intro y _
    cases hy : flt y p with
    | true => rw [flt_trans hy h]; rfl
    | false => rfl
  · unfold bel abv
    rw [List.filter_filter, List.filter_filter]
    congr 1
    apply List.filter_congr
    intro y _
    rw [Bool.and_comm]
theorem rank_mono {m : List (StA FT)} {x y : StA FT} (hx : x ∈ m) (h : flt x y = true) : rank m x < rank m y := by
  have : ∀ {m : List (StA FT)}, (bel m x).length ≤ (bel m y).length ∧ (x ∈ m → (bel m x).length < (bel m y).length) := by
    intro m
    induction m with
    | nil => exact ⟨Nat.le_refl _, fun h => by cases h⟩
    | cons z m ih =>
      simp only [List.filter_cons]
      by_cases hz : flt z x = true
      · rw [if_pos hz, if_pos (flt_trans hz h)]
        simp only [List.length_cons]
        dsimp only [bel] at ih
        refine ⟨by omega, fun hm => ?_⟩
        rcases List.mem_cons.1 hm with rfl | hm
        · rw [flt_irr] at hz; cases hz
        · have := ih.2 hm; omega
      · rw [if_neg hz]
        by_cases hz2 : flt z y = true
        · rw [if_pos hz2]
          simp only [List.length_cons]
          dsimp only [bel] at ih
          exact ⟨by omega, fun hm => by omega⟩
        · rw [if_neg hz2]
          refine ⟨ih.1, fun hm => ?_⟩
          rcases List.mem_cons.1 hm with rfl | hm
          · exact (hz2 h).elim
          · exact ih.2 hm
  exact this.2 hx
theorem rank_inj {m : List (StA FT)} {x y : StA FT} (hx : x ∈ m) (hy : y ∈ m) (h : rank m x = rank m y) : x = y := by
  apply Classical.byContradiction
  intro hne
  rcases flt_tri hne with h1 | h1
  · have := rank_mono hx h1; omega
  · have := rank_mono hy h1; omega
theorem rank_lt {m : List (StA FT)} {x : StA FT} (hn : m.Nodup) (hx : x ∈ m) : rank m x < m.length := by
  have := part_len hn hx
  dsimp only [bel, abv] at this
  unfold rank; omega
theorem rank_iff {m : List (StA FT)} {x y : StA FT} (hx : x ∈ m) (hy : y ∈ m) : flt x y = decide (rank m x < rank m y) := by
  cases h : flt x y with
  | true => exact (decide_eq_true (rank_mono hx h)).symm
  | false =>
    symm
    rw [decide_eq_false_iff_not]
    intro hlt
    by_cases e : x = y
    · subst e; omega
    · rcases flt_tri e with h1 | h1
      · rw [h] at h1; cases h1
      · have := rank_mono hy h1; omega
end Go.Proofs.YtpcbppicjoolfaaF
