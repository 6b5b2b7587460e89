/- Chapter 9: rows of things in memory. No condition. -/
import Derived.Test.YtibaekemfefoaaaMetric
namespace Go.Proofs.YtibaekemfefoaaaF
open Go Go.Proofs.YtibaekemfefoaaaK
set_option linter.unusedSimpArgs false
set_option linter.unusedVariables false

abbrev eQ : Int → List Value := encI .i64
theorem eQ_ok : Enc eQ 1 := encI_ok .i64
abbrev R64 := IsRow eQ 1
/-- A row of things in memory. -/
def ORow (h : Hp) (s : Sl) (l : List Ob) : Prop := ∃ xs : List (StA OT), IsRow (vsA OT) 3 h s xs ∧ xs.length = l.length ∧ ∀ (i : Nat) (x : StA OT) (o : Ob), xs[i]? = some x → l[i]? = some o → ObR h x o
theorem ORow.ext {h h' : Hp} {s : Sl} {l : List Ob} (r : ORow h s l) (e : Ext h h') : ORow h' s l := by
  obtain ⟨xs, r1, r2, r3⟩ := r
  exact ⟨xs, r1.ext e, r2, fun i x o hx ho => (r3 i x o hx ho).ext e⟩
theorem ORow.len {h : Hp} {s : Sl} {l : List Ob} (r : ORow h s l) : s.len = l.length := by
  obtain ⟨xs, r1, r2, r3⟩ := r
  rw [r1.len, r2]
theorem ld_ob {h h0 : Hp} {s : Sl} {l : List Ob} (r : ORow h0 s l) (e : Ext h0 h) {i : Int} {o : Ob} (hi0 : 0 ≤ i) (ho : l[i.toNat]? = some o) {K : Addr → Prop} (hK : ∀ a (x : StA OT), cellsAt h a (vsA OT x) → ObR h0 x o → K a) : idxS s.a s.len i 3 K := by
  obtain ⟨xs, r1, r2, r3⟩ := r
  have hi := (List.getElem?_eq_some_iff.1 ho).1
  have hx : xs[i.toNat]? = some (xs[i.toNat]'(by omega)) := List.getElem?_eq_getElem (by omega)
  exact ld_row (r1.ext e) hi0 hx fun a ha hc => hK _ _ hc (r3 _ _ _ hx ho)

/-- A row of things, no part of which lies in block p. -/
def ARow (p : Nat) (h : Hp) (s : Sl) (l : List Ob) : Prop := ∃ xs : List (StA OT), IsRow (vsA OT) 3 h s xs ∧ xs.length = l.length ∧ NotAt p s xs ∧ ∀ (i : Nat) (x : StA OT) (o : Ob), xs[i]? = some x → l[i]? = some o → ObA p h x o
theorem ORow.apart {p : Nat} {h : Hp} {s : Sl} {l : List Ob} (r : ORow h s l) (hp : h.size ≤ p) : ARow p h s l := by
  obtain ⟨xs, r1, r2, r3⟩ := r
  exact ⟨xs, r1, r2, notAt_of encOT (by decide) r1 hp, fun i x o hx ho => (r3 i x o hx ho).apart hp⟩
theorem ARow.only {p : Nat} {h h' : Hp} {s : Sl} {l : List Ob} (r : ARow p h s l) (u : Only p h h') : ARow p h' s l := by
  obtain ⟨xs, r1, r2, r3, r4⟩ := r
  exact ⟨xs, isRow_only r1 u r3, r2, r3, fun i x o hx ho => (r4 i x o hx ho).only u⟩
theorem ARow.len {p : Nat} {h : Hp} {s : Sl} {l : List Ob} (r : ARow p h s l) : s.len = l.length := by
  obtain ⟨xs, r1, r2, r3⟩ := r
  rw [r1.len, r2]
theorem ld_oa {p : Nat} {h h0 : Hp} {s : Sl} {l : List Ob} (r : ARow p h0 s l) (e : Only p h0 h) {i : Int} {o : Ob} (hi0 : 0 ≤ i) (ho : l[i.toNat]? = some o) {K : Addr → Prop} (hK : ∀ a (x : StA OT), cellsAt h a (vsA OT x) → ObA p h0 x o → K a) : idxS s.a s.len i 3 K := by
  obtain ⟨xs, r1, r2, r3, r4⟩ := r
  have hi := (List.getElem?_eq_some_iff.1 ho).1
  have hx : xs[i.toNat]? = some (xs[i.toNat]'(by omega)) := List.getElem?_eq_getElem (by omega)
  exact ld_row (isRow_only r1 e r3) hi0 hx fun a ha hc => hK _ _ hc (r4 _ _ _ hx ho)

/-- A row of things of any size in memory. -/
structure ObX (h : Hp) (x : StA OT) (o : Ob) : Prop where
  str : oStr x = o.2
  vec : R32 h (oVec x) o.1
  ok : Ok32 o.1
def XRow (h : Hp) (s : Sl) (l : List Ob) : Prop := ∃ xs : List (StA OT), IsRow (vsA OT) 3 h s xs ∧ xs.length = l.length ∧ ∀ (i : Nat) (x : StA OT) (o : Ob), xs[i]? = some x → l[i]? = some o → ObX h x o
theorem XRow.len {h : Hp} {s : Sl} {l : List Ob} (r : XRow h s l) : s.len = l.length := by
  obtain ⟨xs, r1, r2, r3⟩ := r
  rw [r1.len, r2]
theorem XRow.ext {h h' : Hp} {s : Sl} {l : List Ob} (r : XRow h s l) (e : Ext h h') : XRow h' s l := by
  obtain ⟨xs, r1, r2, r3⟩ := r
  exact ⟨xs, r1.ext e, r2, fun i x o hx ho => ⟨(r3 i x o hx ho).str, (r3 i x o hx ho).vec.ext e, (r3 i x o hx ho).ok⟩⟩
def Shrt (l : List Ob) (n : Int) : Prop := ∀ o ∈ l, (o.1.length : Int) ≤ n ∧ (o.2.size : Int) ≤ n
theorem XRow.short {h : Hp} {s : Sl} {l : List Ob} {n : Int} (r : XRow h s l) (hs : Shrt l n) (hn : n ≤ 1048576) : ORow h s l := by
  obtain ⟨xs, r1, r2, r3⟩ := r
  refine ⟨xs, r1, r2, fun i x o hx ho => ?_⟩
  have := hs o (List.mem_of_getElem? ho)
  exact ⟨(r3 i x o hx ho).str, (r3 i x o hx ho).vec, (r3 i x o hx ho).ok, by omega, by omega⟩
theorem r_Short {h : Hp} {sl : Sl} {l : List Ob} {n : Int} {K : Bool → Hp → Prop} (r : XRow h sl l) (hl : l.length ≤ 140737488355328) (hK : ∀ t : Bool, (t = true → Shrt l n) → K t h) : C_ref09_Short sl n h K := by
  refine F_ref09_Short_ok _ _ _ _ ?_
  have hlen := r.len
  obtain ⟨xs, r1, r2, r3⟩ := r
  refine Lp.inv (fun st => st.2 = h ∧ ∃ k : Nat, st.1.1 = (k : Int) ∧ k ≤ l.length ∧ ∀ (j : Nat) (o : Ob), j < k → l[j]? = some o → (o.1.length : Int) ≤ n ∧ (o.2.size : Int) ≤ n) (fun st => l.length - st.1.1.toNat) ?_ ⟨rfl, 0, rfl, by omega, fun j o hj => by omega⟩
  rintro ⟨⟨k', ⟨⟩⟩, g⟩ R ⟨rfl, k, rfl, hk, hs⟩ hR
  unfold L1_ref09_Short
  dsimp only
  refine cnd_dec.2 ⟨fun hlt => ?_, fun hge => ?_⟩
  · have hy : l[k]? = some (l[k]'(by omega)) := List.getElem?_eq_getElem (by omega)
    have hx : xs[k]? = some (xs[k]'(by omega)) := List.getElem?_eq_getElem (by omega)
    generalize l[k]'(by omega) = y at hy
    generalize xs[k]'(by omega) = x at hx
    have rx := r3 k x y hx hy
    have hv := rx.vec.len
    refine ld_row r1 (i := (k : Int)) (x := x) (by omega) (by rw [Int.toNat_natCast]; exact hx) fun a ha ca => ?_
    refine ldA_row (s := .str) (j := 2) (x := oStr x) ca rfl (cnd_dec.2 ⟨fun hgt => hK false (fun h => by cases h), fun hng => ?_⟩)
    refine ld_row r1 (i := (k : Int)) (x := x) (by omega) (by rw [Int.toNat_natCast]; exact hx) fun a2 ha2 ca2 => ?_
    refine ldA_row (s := .sl) (j := 1) (x := oVec x) ca2 rfl (cnd_dec.2 ⟨fun hgt => hK false (fun h => by cases h), fun hng2 => let_to ?_⟩)
    rw [wrap_i64 (by omega) (by omega)]
    refine hR _ ⟨rfl, k + 1, by simp, by omega, fun j o hj ho => ?_⟩ (by simp only; omega)
    by_cases e : j = k
    · subst e; rw [hy] at ho; cases ho
      rw [rx.str] at hng
      omega
    · exact hs j o (by omega) ho
  · refine hK true fun _ o ho => ?_
    obtain ⟨j, hj⟩ := List.getElem?_of_mem ho
    exact hs j o (by have := (List.getElem?_eq_some_iff.1 hj).1; omega) hj

end Go.Proofs.YtibaekemfefoaaaF
