/- Chapter 9: three things picked from an array, in whatever order. No condition. -/
import Derived.Test.YtibaekemfefoaaaF
import Derived.Test.YtibaekemfefoaaaK23
namespace Go.Proofs.YtibaekemfefoaaaF
open Go Go.Proofs.YtibaekemfefoaaaK
set_option linter.unusedSimpArgs false
set_option linter.unusedVariables false

noncomputable def mhOps : Array Oper := Option.getD (regOps (Option.getD Try.f3.body .skip) 1) #[]
theorem mh_size : mhOps.size = 12 := by kernel_rfl
abbrev mhE : List (List Nat) := [[], [0], [], [2], [], [4], [], [], [], [6, 1, 0, 1, 6, 7, 8], [7, 3, 9, 0, 1, 2, 3, 6, 7, 8, 9], [8, 5, 10, 0, 1, 2, 3, 4, 5, 6, 7, 8, 9, 10]]
theorem mh_edges : mhOps.toList.map edgesOf = mhE := by kernel_rfl
theorem mh_guard : (mhOps.toList.map (·.guard)) = List.replicate 12 none := by kernel_rfl
theorem mh_dst : (mhOps.toList.map (·.dst)) = [some 11, some 12, some 13, some 14, some 15, some 16, some 7, some 8, some 9, none, none, none] := by kernel_rfl
theorem mh_get {i : Nat} {o : Oper} (ho : mhOps[i]? = some o) : (mhOps.toList.map edgesOf)[i]? = some (edgesOf o) ∧ (mhOps.toList.map (·.guard))[i]? = some o.guard ∧ (mhOps.toList.map (·.dst))[i]? = some o.dst := by
  rw [List.getElem?_map, List.getElem?_map, List.getElem?_map, Array.getElem?_toList, ho]; exact ⟨rfl, rfl, rfl⟩
abbrev O3 : List At := [.int .i64, .sl, .str]
abbrev ptr (b o : Nat) : Value := .pointer (some ⟨b, o, none⟩)
structure MI (b : Nat) (X : Nat → StA O3) (h0 : Hp) (a0 : Act) (w0 : World) (l : Array Bool) (a : Act) (w : World) : Prop where
  size : l.size = 12
  io : IO w0 w
  ext : Ext h0 w.heap
  dfs : a.defers = a0.defers
  tsz : a.tmps.size = 95
  keep : ∀ t, hasN [11, 12, 13, 14, 15, 16, 7, 8, 9] t = false → a.tmps[t]? = a0.tmps[t]?
  ix : ∀ j, j < 3 → Listed l (2 * j) → a.tmps[11 + 2 * j]? = some (ptr b (3 * j))
  ld : ∀ j, j < 3 → Listed l (2 * j + 1) → a.tmps[12 + 2 * j]? = some (.agg (vsA O3 (X j)).toArray)
  closed : ∀ i e, Listed l i → e ∈ mhE[i]?.getD [] → Listed l e
  al : ∃ p : Nat → Nat, (∀ j, j < 3 → Listed l (6 + j) → a.tmps[7 + j]? = some (ptr (p j) 0) ∧ h0.size ≤ p j ∧ ∃ c, Blk w.heap (p j) c ∧ c.size = 3 ∧ (Listed l (9 + j) → c.toList = vsA O3 (X j))) ∧
    ∀ j k, j < 3 → k < 3 → j ≠ k → Listed l (6 + j) → Listed l (6 + k) → p j ≠ p k
theorem MI.ls {b : Nat} {X : Nat → StA O3} {h0 : Hp} {a0 : Act} {w0 : World} {l : Array Bool} {a : Act} {w : World} (m : MI b X h0 a0 w0 l a w) {i : Nat} (hi : i < 12) (j : Nat) : Listed (l.setIfInBounds i true) j ↔ i = j ∨ Listed l j := listed_set (by rw [m.size]; exact hi)
/-- A reader is done. -/
theorem MI.rd {b : Nat} {X : Nat → StA O3} {h0 : Hp} {a0 : Act} {w0 : World} {l : Array Bool} {a : Act} {w : World} (m : MI b X h0 a0 w0 l a w) {i d : Nat} {v : Value} (hi : i < 6) (hd : d = 11 + i) (h1 : ∀ j, j < 3 → i = 2 * j → v = ptr b (3 * j)) (h2 : ∀ j, j < 3 → i = 2 * j + 1 → v = .agg (vsA O3 (X j)).toArray) (hcl : ∀ e, e ∈ mhE[i]?.getD [] → Listed l e) : MI b X h0 a0 w0 (l.setIfInBounds i true) (a.put (some d) v) w := by
  have ls := fun j => m.ls (i := i) (by omega) j
  obtain ⟨p, hp1, hp2⟩ := m.al
  refine ⟨by simp [m.size], m.io, m.ext, by rw [put_defers, m.dfs], by rw [put_size, m.tsz], fun t ht => ?_, fun j hj hL => ?_, fun j hj hL => ?_, fun k e hk hm => (ls e).2 (.inr (by rcases (ls k).1 hk with rfl | hk; exact hcl e hm; exact m.closed k e hk hm)), p, fun j hj hL => ?_, fun j k hj hk hjk hL hL2 => hp2 j k hj hk hjk ?_ ?_⟩
  · rw [put_tmp (fun e => ?_)]; exact m.keep t ht
    subst e
    have : i = 0 ∨ i = 1 ∨ i = 2 ∨ i = 3 ∨ i = 4 ∨ i = 5 := by omega
    rcases this with e | e | e | e | e | e <;> subst e <;> subst hd <;> simp [hasN] at ht
  · rcases (ls _).1 hL with e | hL
    · rw [show 11 + 2 * j = d by omega, put_self (by rw [m.tsz]; omega), h1 j hj e]
    · by_cases e : i = 2 * j
      · rw [show 11 + 2 * j = d by omega, put_self (by rw [m.tsz]; omega), h1 j hj e]
      · rw [put_tmp (by omega)]; exact m.ix j hj hL
  · rcases (ls _).1 hL with e | hL
    · rw [show 12 + 2 * j = d by omega, put_self (by rw [m.tsz]; omega), h2 j hj e]
    · by_cases e : i = 2 * j + 1
      · rw [show 12 + 2 * j = d by omega, put_self (by rw [m.tsz]; omega), h2 j hj e]
      · rw [put_tmp (by omega)]; exact m.ld j hj hL
  · obtain ⟨q1, q2, c, q3, q4, q5⟩ := hp1 j hj (((ls _).1 hL).resolve_left (by omega))
    exact ⟨by rw [put_tmp (by omega)]; exact q1, q2, c, q3, q4, fun hL9 => q5 (((ls _).1 hL9).resolve_left (by omega))⟩
  · exact ((ls _).1 hL).resolve_left (by omega)
  · exact ((ls _).1 hL2).resolve_left (by omega)
/-- A box is made. -/
theorem MI.mk1 {b : Nat} {X : Nat → StA O3} {h0 : Hp} {a0 : Act} {w0 : World} {l : Array Bool} {a : Act} {w w' : World} (m : MI b X h0 a0 w0 l a w) {i d : Nat} {c : Array Value} {e : TypeId} (hi : 6 ≤ i ∧ i < 9) (hd : d = i + 1) (hc : c.size = 3) (hw : w'.heap = w.heap.push (.cells c e)) (io : IO w w') (h9 : ¬ Listed l (i + 3)) (hni : ¬ Listed l i) (hcl : ∀ e, e ∈ mhE[i]?.getD [] → Listed l e) : MI b X h0 a0 w0 (l.setIfInBounds i true) (a.put (some d) (ptr w.heap.size 0)) w' := by
  have ls := fun j => m.ls (i := i) (by omega) j
  obtain ⟨p, hp1, hp2⟩ := m.al
  have x : Ext w.heap w'.heap := by rw [hw]; exact Ext.push _ _
  have hlt : ∀ j, j < 3 → Listed l (6 + j) → p j < w.heap.size := fun j hj hL => by obtain ⟨_, _, c, q, _⟩ := hp1 j hj hL; exact q.lt
  have hs0 := m.ext.size
  refine ⟨by simp [m.size], m.io.trans io, m.ext.trans x, by rw [put_defers, m.dfs], by rw [put_size, m.tsz], fun t ht => ?_, fun j hj hL => ?_, fun j hj hL => ?_, fun k e hk hm => (ls e).2 (.inr (by rcases (ls k).1 hk with rfl | hk; exact hcl e hm; exact m.closed k e hk hm)), fun j => if 6 + j = i then w.heap.size else p j, fun j hj hL => ?_, fun j k hj hk hjk hL hL2 => ?_⟩
  · rw [put_tmp (fun e => ?_)]; exact m.keep t ht
    subst e
    have : i = 6 ∨ i = 7 ∨ i = 8 := by omega
    rcases this with e | e | e <;> subst e <;> subst hd <;> simp [hasN] at ht
  · rw [put_tmp (by omega)]; exact m.ix j hj (((ls _).1 hL).resolve_left (by omega))
  · rw [put_tmp (by omega)]; exact m.ld j hj (((ls _).1 hL).resolve_left (by omega))
  · by_cases e6 : 6 + j = i
    · simp only [e6, if_true]
      refine ⟨by rw [show 7 + j = d by omega, put_self (by rw [m.tsz]; omega)], hs0, c, by rw [hw]; exact Blk.new _ _ _, hc, fun hL9 => ?_⟩
      rcases (ls _).1 hL9 with e | hL9
      · omega
      · exact (h9 (by rw [show i + 3 = 9 + j by omega]; exact hL9)).elim
    · simp only [if_neg e6]
      obtain ⟨q1, q2, c', q3, q4, q5⟩ := hp1 j hj (((ls _).1 hL).resolve_left (by omega))
      exact ⟨by rw [put_tmp (by omega)]; exact q1, q2, c', q3.ext x, q4, fun hL9 => q5 (((ls _).1 hL9).resolve_left (by omega))⟩
  · simp only
    split
    · rename_i e1
      rw [if_neg (by omega)]
      have := hlt k hk (((ls _).1 hL2).resolve_left (by omega))
      omega
    · rename_i e1
      have := hlt j hj (((ls _).1 hL).resolve_left (by omega))
      split
      · omega
      · exact hp2 j k hj hk hjk (((ls _).1 hL).resolve_left (by omega)) (((ls _).1 hL2).resolve_left (by omega))
/-- A box is filled. -/
theorem MI.st1 {b : Nat} {X : Nat → StA O3} {h0 : Hp} {a0 : Act} {w0 : World} {l : Array Bool} {a : Act} {w w' : World} (m : MI b X h0 a0 w0 l a w) {j0 p0 : Nat} (hj0 : j0 < 3) (h6 : ∀ j, j < 3 → Listed l (6 + j)) (hp0 : a.tmps[7 + j0]? = some (ptr p0 0)) (o : Only p0 w.heap w'.heap) (hb : Blk w'.heap p0 (vsA O3 (X j0)).toArray) (io : IO w w') (v : Value) (hcl : ∀ e, e ∈ mhE[9 + j0]?.getD [] → Listed l e) : MI b X h0 a0 w0 (l.setIfInBounds (9 + j0) true) (a.put none v) w' := by
  have ls := fun j => m.ls (i := 9 + j0) (by omega) j
  obtain ⟨p, hp1, hp2⟩ := m.al
  obtain ⟨q1, q2, _⟩ := hp1 j0 hj0 (h6 j0 hj0)
  have hpe : p0 = p j0 := by rw [hp0] at q1; simpa using q1
  subst hpe
  refine ⟨by simp [m.size], m.io.trans io, m.ext.only_new o q2, m.dfs, m.tsz, m.keep, fun j hj hL => m.ix j hj (((ls _).1 hL).resolve_left (by omega)), fun j hj hL => m.ld j hj (((ls _).1 hL).resolve_left (by omega)), fun k e hk hm => (ls e).2 (.inr (by rcases (ls k).1 hk with rfl | hk; exact hcl e hm; exact m.closed k e hk hm)), p, fun j hj hL => ?_, fun j k hj hk hjk hL hL2 => hp2 j k hj hk hjk (h6 j hj) (h6 k hk)⟩
  obtain ⟨r1, r2, c, r3, r4, r5⟩ := hp1 j hj (h6 j hj)
  by_cases e : j = j0
  · subst e
    exact ⟨r1, r2, _, hb, rfl, fun _ => rfl⟩
  · exact ⟨r1, r2, c, r3.only o (hp2 j j0 hj hj0 e (h6 j hj) (h6 j0 hj0)), r4, fun hL9 => r5 (((ls _).1 hL9).resolve_left (by omega))⟩
theorem mh_ix {b : Nat} {h : Hp} {K : Value → Prop} : (opR Try.prog [(5, some (ptr b 0))] (mhOps[0]!) h K = idxS (some ⟨b, 0, none⟩) 3 0 3 fun p => K (.pointer (some p))) ∧ (opR Try.prog [(5, some (ptr b 0))] (mhOps[2]!) h K = idxS (some ⟨b, 0, none⟩) 3 1 3 fun p => K (.pointer (some p))) ∧
    (opR Try.prog [(5, some (ptr b 0))] (mhOps[4]!) h K = idxS (some ⟨b, 0, none⟩) 3 2 3 fun p => K (.pointer (some p))) := ⟨by kernel_rfl, by kernel_rfl, by kernel_rfl⟩
def ldT (h : Hp) (b o : Nat) (K : Value → Prop) : Prop := ldA (.int .i64) h ⟨b, o, none⟩ fun x => ldA .sl h (Addr.add ⟨b, o, none⟩ 1) fun y => ldA .str h (Addr.add ⟨b, o, none⟩ 2) fun z => K (.agg #[.int .i64 x, .slice y.a y.len y.cap, .string z])
theorem mh_ld {b o : Nat} {h : Hp} {K : Value → Prop} : (opR Try.prog [(11, some (ptr b o))] (mhOps[1]!) h K = ldT h b o K) ∧ (opR Try.prog [(13, some (ptr b o))] (mhOps[3]!) h K = ldT h b o K) ∧ (opR Try.prog [(15, some (ptr b o))] (mhOps[5]!) h K = ldT h b o K) := ⟨by kernel_rfl, by kernel_rfl, by kernel_rfl⟩
def mkT (h : Hp) (K : Value → Hp → Prop) : Prop := K (.pointer (some ⟨h.size, 0, none⟩)) (Array.push h (Obj.cells #[.int .i64 0, .slice none 0 0, .string (ByteArray.mk #[])] 24))
theorem mh_mk {h : Hp} {K : Value → Hp → Prop} : (opW Try.prog [] (mhOps[6]!) h K = mkT h K) ∧ (opW Try.prog [] (mhOps[7]!) h K = mkT h K) ∧ (opW Try.prog [] (mhOps[8]!) h K = mkT h K) := ⟨by kernel_rfl, by kernel_rfl, by kernel_rfl⟩
def stT (h : Hp) (p : Nat) (x : Int) (y : Sl) (z : ByteArray) (K : Value → Hp → Prop) : Prop := stC h ⟨p, 0, none⟩ (Let (hset h ⟨p, 0, none⟩ (.int .i64 x)) fun h1 => stC h1 (Addr.add ⟨p, 0, none⟩ 1) (Let (hset h1 (Addr.add ⟨p, 0, none⟩ 1) (.slice y.a y.len y.cap)) fun h2 => stC h2 (Addr.add ⟨p, 0, none⟩ 2) (Let (hset h2 (Addr.add ⟨p, 0, none⟩ 2) (.string z)) fun h3 => K undef h3)))
theorem mh_st {h : Hp} {p : Nat} {x : Int} {y : Sl} {z : ByteArray} {K : Value → Hp → Prop} : (opW Try.prog [(7, some (ptr p 0)), (12, some (.agg #[.int .i64 x, .slice y.a y.len y.cap, .string z]))] (mhOps[9]!) h K = stT h p x y z K) ∧
    (opW Try.prog [(8, some (ptr p 0)), (14, some (.agg #[.int .i64 x, .slice y.a y.len y.cap, .string z]))] (mhOps[10]!) h K = stT h p x y z K) ∧ (opW Try.prog [(9, some (ptr p 0)), (16, some (.agg #[.int .i64 x, .slice y.a y.len y.cap, .string z]))] (mhOps[11]!) h K = stT h p x y z K) := ⟨by kernel_rfl, by kernel_rfl, by kernel_rfl⟩
theorem mh_at {i : Nat} {o : Oper} (ho : mhOps[i]? = some o) : o = mhOps[i]! := by
  have := (Array.getElem?_eq_some_iff.1 ho)
  obtain ⟨h1, h2⟩ := this
  rw [getElem!_pos mhOps i h1]; exact h2.symm
/-- A thing of three cells is read. -/
theorem ld_to {h : Hp} {b o : Nat} {c : Array Value} {x : StA O3} (bx : Blk h b c) (h0 : c[o]? = some (.int .i64 x.1)) (h1 : c[o + 1]? = some (.slice x.2.1.a x.2.1.len x.2.1.cap)) (h2 : c[o + 2]? = some (.string x.2.2.1)) {K : Value → Prop} (hK : K (.agg (vsA O3 x).toArray)) : ldT h b o K := by
  refine ldA_blk (s := .int .i64) (x := x.1) bx h0 ?_
  rw [add_mk, add_mk]
  exact ldA_blk (s := .sl) (x := x.2.1) bx h1 (ldA_blk (s := .str) (x := x.2.2.1) bx h2 hK)
theorem st_to {h : Hp} {p : Nat} {c : Array Value} {x : StA O3} (bx : Blk h p c) (hc : c.size = 3) {K : Value → Hp → Prop} (hK : ∀ h', Blk h' p (vsA O3 x).toArray → Only p h h' → K undef h') : stT h p x.1 x.2.1 x.2.2.1 K := by
  unfold stT
  rw [add_mk, add_mk]
  refine set_to (i := 0) bx (by omega) fun h1 b1 o1 _ _ => set_to (i := 1) b1 (by simp; omega) fun h2 b2 o2 _ _ => set_to (i := 2) b2 (by simp; omega) fun h3 b3 o3 _ _ => hK h3 ?_ ((o1.trans o2).trans o3)
  have e : ((c.setIfInBounds 0 (.int .i64 x.1)).setIfInBounds (0 + 1) (.slice x.2.1.a x.2.1.len x.2.1.cap)).setIfInBounds (0 + 2) (.string x.2.2.1) = (vsA O3 x).toArray := by
    obtain ⟨l⟩ := c
    match l, hc with
    | [u, v, w], _ => rfl
  rw [← e]; exact b3
theorem mh_reg {b : Nat} {h : Hp} {X : Nat → StA O3} (bx : Blk h b ((vsA O3 (X 0) ++ vsA O3 (X 1) ++ vsA O3 (X 2)).toArray)) {K : (Option Addr) × (Option Addr) × (Option Addr) × Unit → Hp → Prop}
    (hK : ∀ p q r h', Blk h' p (vsA O3 (X 0)).toArray → Blk h' q (vsA O3 (X 1)).toArray → Blk h' r (vsA O3 (X 2)).toArray → Ext h h' → K (some ⟨p, 0, none⟩, some ⟨q, 0, none⟩, some ⟨r, 0, none⟩, ()) h') :
    RegW Try.prog 95 mhOps [(5, some (.pointer (some ⟨b, 0, none⟩)))] h [(7, .at .ptr), (8, .at .ptr), (9, .at .ptr)] K := by
  intro lr ds a0 w0 Q hs hw hQ
  have h5 : a0.tmps[5]? = some (ptr b 0) := hs.get 5 _ rfl
  have hac : ∀ i o, mhOps[i]? = some o → ∀ e ∈ edgesOf o, e < i := by
    intro i o ho e he
    have h1 := (mh_get ho).1
    rw [mh_edges] at h1
    match i, h1 with
    | 0, h1 | 1, h1 | 2, h1 | 3, h1 | 4, h1 | 5, h1 | 6, h1 | 7, h1 | 8, h1 | 9, h1 | 10, h1 | 11, h1 => have h2 := Option.some.inj h1; rw [← h2] at he; revert he; revert e; decide
    | n + 12, h1 => simp at h1
  have g5 : ∀ {l a w}, MI b X h a0 w0 l a w → Says ds [(5, some (ptr b 0))] 95 a := fun {l a w} m => ⟨by rw [m.dfs, hs.defers], m.tsz, fun t v ht => by
    rw [AFr.get_cons] at ht
    split at ht
    · rename_i e; subst e; cases ht; rw [m.keep 5 (by decide)]; exact h5
    · cases ht⟩
  have sNil : ∀ {l a w}, MI b X h a0 w0 l a w → Says ds [] 95 a := fun {l a w} m => ⟨by rw [m.dfs, hs.defers], m.tsz, fun t v ht => by cases ht⟩
  have s1 : ∀ {l a w}, MI b X h a0 w0 l a w → ∀ {t v}, a.tmps[t]? = some v → Says ds [(t, some v)] 95 a := fun {l a w} m {t v} hv => ⟨by rw [m.dfs, hs.defers], m.tsz, fun u y ht => by
    rw [AFr.get_cons] at ht
    split at ht
    · rename_i e; subst e; cases ht; exact hv
    · cases ht⟩
  have s2 : ∀ {l a w}, MI b X h a0 w0 l a w → ∀ {t v t' v'}, a.tmps[t]? = some v → a.tmps[t']? = some v' → Says ds [(t, some v), (t', some v')] 95 a := fun {l a w} m {t v t' v'} hv hv' => ⟨by rw [m.dfs, hs.defers], m.tsz, fun u y ht => by
    rw [AFr.get_cons] at ht
    split at ht
    · rename_i e; subst e; cases ht; exact hv
    · rw [AFr.get_cons] at ht
      split at ht
      · rename_i e; subst e; cases ht; exact hv'
      · cases ht⟩
  refine any_inv hac (MI b X h a0 w0) (fun l a w m => by rw [m.size, mh_size]) ?_ ?_ _ _ _ _ ⟨by simp [mh_size], IO.drew w0, by rw [← hw]; exact Ext.refl _, rfl, hs.size, fun _ _ => rfl, fun j _ hL => (not_listed _ _ hL).elim, fun j _ hL => (not_listed _ _ hL).elim, fun k _ hL => (not_listed _ _ hL).elim, fun _ => 0, fun j _ hL => (not_listed _ _ hL).elim, fun j k _ _ _ hL => (not_listed _ _ hL).elim⟩ (by simp)
  · intro l a w i o m hni ho he
    obtain ⟨hE, hG, hD⟩ := mh_get ho
    rw [mh_edges] at hE
    rw [mh_guard] at hG
    rw [mh_dst] at hD
    have bw : Blk w.heap b ((vsA O3 (X 0) ++ vsA O3 (X 1) ++ vsA O3 (X 2)).toArray) := bx.ext m.ext
    obtain rfl := mh_at ho
    have hcl : ∀ e, e ∈ mhE[i]?.getD [] → Listed l e := fun e hm => he e (by rw [hE] at hm; exact hm)
    have cl : ∀ (j : Nat), j < 3 → ∀ o, ((vsA O3 (X 0) ++ vsA O3 (X 1) ++ vsA O3 (X 2)).toArray)[3 * j + o]? = (vsA O3 (X 0) ++ vsA O3 (X 1) ++ vsA O3 (X 2))[3 * j + o]? := fun j _ o => List.getElem?_toArray
    have rdx : ∀ (j : Nat), j < 3 → ∀ {K : Value → Prop}, K (.agg (vsA O3 (X j)).toArray) → ldT w.heap b (3 * j) K := fun j hj {K} hk => by
      have : j = 0 ∨ j = 1 ∨ j = 2 := by omega
      rcases this with e | e | e <;> subst e <;> exact ld_to bw rfl rfl rfl hk
    match i, hE, hG, hD, ho, hni, he, hcl with
    | 0, hE, hG, hD, ho, hni, he, hcl =>
      refine step_R ho (Option.some.inj hG).symm (g5 m) (by
        rw [mh_ix.1]
        refine ⟨by omega, ?_⟩
        show MI b X h a0 w0 _ (a.put (mhOps[0]!).dst (.pointer (some (Addr.add ⟨b, 0, none⟩ (0 * 3))))) w
        rw [← Option.some.inj hD, add_mk]
        exact m.rd (by omega) rfl (fun j hj e => by rw [show j = 0 by omega]) (fun j hj e => by omega) hcl)
    | 1, hE, hG, hD, ho, hni, he, hcl =>
      have hp := m.ix 0 (by omega) (hcl 0 (by decide))
      refine step_R ho (Option.some.inj hG).symm (s1 m hp) (by
        show opR Try.prog [(11, some (ptr b 0))] (mhOps[1]!) w.heap _
        rw [mh_ld.1]
        refine rdx 0 (by omega) ?_
        rw [← Option.some.inj hD]
        exact m.rd (by omega) rfl (fun j hj e => by omega) (fun j hj e => by rw [show j = 0 by omega]) hcl)
    | 2, hE, hG, hD, ho, hni, he, hcl =>
      refine step_R ho (Option.some.inj hG).symm (g5 m) (by
        rw [mh_ix.2.1]
        refine ⟨by omega, ?_⟩
        show MI b X h a0 w0 _ (a.put (mhOps[2]!).dst (.pointer (some (Addr.add ⟨b, 0, none⟩ (1 * 3))))) w
        rw [← Option.some.inj hD, add_mk]
        exact m.rd (by omega) rfl (fun j hj e => by rw [show j = 1 by omega]) (fun j hj e => by omega) hcl)
    | 3, hE, hG, hD, ho, hni, he, hcl =>
      have hp := m.ix 1 (by omega) (hcl 2 (by decide))
      refine step_R ho (Option.some.inj hG).symm (s1 m hp) (by
        show opR Try.prog [(13, some (ptr b 3))] (mhOps[3]!) w.heap _
        rw [mh_ld.2.1]
        refine rdx 1 (by omega) ?_
        rw [← Option.some.inj hD]
        exact m.rd (by omega) rfl (fun j hj e => by omega) (fun j hj e => by rw [show j = 1 by omega]) hcl)
    | 4, hE, hG, hD, ho, hni, he, hcl =>
      refine step_R ho (Option.some.inj hG).symm (g5 m) (by
        rw [mh_ix.2.2]
        refine ⟨by omega, ?_⟩
        show MI b X h a0 w0 _ (a.put (mhOps[4]!).dst (.pointer (some (Addr.add ⟨b, 0, none⟩ (2 * 3))))) w
        rw [← Option.some.inj hD, add_mk]
        exact m.rd (by omega) rfl (fun j hj e => by rw [show j = 2 by omega]) (fun j hj e => by omega) hcl)
    | 5, hE, hG, hD, ho, hni, he, hcl =>
      have hp := m.ix 2 (by omega) (hcl 4 (by decide))
      refine step_R ho (Option.some.inj hG).symm (s1 m hp) (by
        show opR Try.prog [(15, some (ptr b 6))] (mhOps[5]!) w.heap _
        rw [mh_ld.2.2]
        refine rdx 2 (by omega) ?_
        rw [← Option.some.inj hD]
        exact m.rd (by omega) rfl (fun j hj e => by omega) (fun j hj e => by rw [show j = 2 by omega]) hcl)
    | 6, hE, hG, hD, ho, hni, he, hcl =>
      refine step_W ho (Option.some.inj hG).symm (sNil m) (by
        rw [mh_mk.1]
        intro w' hw' io
        rw [← Option.some.inj hD]
        exact m.mk1 (by omega) rfl rfl hw' io (fun hL => hni (m.closed _ _ hL (by decide))) hni hcl)
    | 7, hE, hG, hD, ho, hni, he, hcl =>
      refine step_W ho (Option.some.inj hG).symm (sNil m) (by
        rw [mh_mk.2.1]
        intro w' hw' io
        rw [← Option.some.inj hD]
        exact m.mk1 (by omega) rfl rfl hw' io (fun hL => hni (m.closed _ _ hL (by decide))) hni hcl)
    | 8, hE, hG, hD, ho, hni, he, hcl =>
      refine step_W ho (Option.some.inj hG).symm (sNil m) (by
        rw [mh_mk.2.2]
        intro w' hw' io
        rw [← Option.some.inj hD]
        exact m.mk1 (by omega) rfl rfl hw' io (fun hL => hni (m.closed _ _ hL (by decide))) hni hcl)
    | 9, hE, hG, hD, ho, hni, he, hcl =>
      have h6 : ∀ j, j < 3 → Listed l (6 + j) := fun j hj => hcl _ (by rcases (show j = 0 ∨ j = 1 ∨ j = 2 by omega) with e | e | e <;> subst e <;> decide)
      have hx := m.ld 0 (by omega) (hcl 1 (by decide))
      obtain ⟨p, hp1, hp2⟩ := m.al
      obtain ⟨q1, q2, c, q3, q4, q5⟩ := hp1 0 (by omega) (h6 0 (by omega))
      refine step_W ho (Option.some.inj hG).symm (s2 m q1 hx) (by
        show opW Try.prog [(7, some (ptr (p 0) 0)), (12, some (.agg #[.int .i64 (X 0).1, .slice (X 0).2.1.a (X 0).2.1.len (X 0).2.1.cap, .string (X 0).2.2.1]))] (mhOps[9]!) w.heap _
        rw [mh_st.1]
        refine st_to q3 q4 fun h' b' o' w' hw' io => ?_
        rw [← Option.some.inj hD]
        exact m.st1 (j0 := 0) (by omega) h6 q1 (by rw [hw']; exact o') (by rw [hw']; exact b') io _ hcl)
    | 10, hE, hG, hD, ho, hni, he, hcl =>
      have h6 : ∀ j, j < 3 → Listed l (6 + j) := fun j hj => hcl _ (by rcases (show j = 0 ∨ j = 1 ∨ j = 2 by omega) with e | e | e <;> subst e <;> decide)
      have hx := m.ld 1 (by omega) (hcl 3 (by decide))
      obtain ⟨p, hp1, hp2⟩ := m.al
      obtain ⟨q1, q2, c, q3, q4, q5⟩ := hp1 1 (by omega) (h6 1 (by omega))
      refine step_W ho (Option.some.inj hG).symm (s2 m q1 hx) (by
        show opW Try.prog [(8, some (ptr (p 1) 0)), (14, some (.agg #[.int .i64 (X 1).1, .slice (X 1).2.1.a (X 1).2.1.len (X 1).2.1.cap, .string (X 1).2.2.1]))] (mhOps[10]!) w.heap _
        rw [mh_st.2.1]
        refine st_to q3 q4 fun h' b' o' w' hw' io => ?_
        rw [← Option.some.inj hD]
        exact m.st1 (j0 := 1) (by omega) h6 q1 (by rw [hw']; exact o') (by rw [hw']; exact b') io _ hcl)
    | 11, hE, hG, hD, ho, hni, he, hcl =>
      have h6 : ∀ j, j < 3 → Listed l (6 + j) := fun j hj => hcl _ (by rcases (show j = 0 ∨ j = 1 ∨ j = 2 by omega) with e | e | e <;> subst e <;> decide)
      have hx := m.ld 2 (by omega) (hcl 5 (by decide))
      obtain ⟨p, hp1, hp2⟩ := m.al
      obtain ⟨q1, q2, c, q3, q4, q5⟩ := hp1 2 (by omega) (h6 2 (by omega))
      refine step_W ho (Option.some.inj hG).symm (s2 m q1 hx) (by
        show opW Try.prog [(9, some (ptr (p 2) 0)), (16, some (.agg #[.int .i64 (X 2).1, .slice (X 2).2.1.a (X 2).2.1.len (X 2).2.1.cap, .string (X 2).2.2.1]))] (mhOps[11]!) w.heap _
        rw [mh_st.2.2]
        refine st_to q3 q4 fun h' b' o' w' hw' io => ?_
        rw [← Option.some.inj hD]
        exact m.st1 (j0 := 2) (by omega) h6 q1 (by rw [hw']; exact o') (by rw [hw']; exact b') io _ hcl)
    | n + 12, hE, hG, hD, ho, hni, he, hcl => simp at hG
  · intro l a w m hall
    have ha : ∀ i, i < 12 → Listed l i := fun i hi => hall i (by rw [mh_size]; exact hi)
    obtain ⟨p, hp1, hp2⟩ := m.al
    have fin : ∀ j, j < 3 → a.tmps[7 + j]? = some (ptr (p j) 0) ∧ Blk w.heap (p j) (vsA O3 (X j)).toArray := fun j hj => by
      obtain ⟨q1, _, c, q3, _, q5⟩ := hp1 j hj (ha _ (by omega))
      have := q5 (ha _ (by omega))
      exact ⟨q1, by rw [← this]; exact q3⟩
    obtain ⟨t0, b0⟩ := fin 0 (by omega)
    obtain ⟨t1, b1⟩ := fin 1 (by omega)
    obtain ⟨t2, b2⟩ := fin 2 (by omega)
    refine hQ a w (some ⟨p 0, 0, none⟩, some ⟨p 1, 0, none⟩, some ⟨p 2, 0, none⟩, ()) m.io (fun t ht => m.keep t ?_) ⟨by rw [m.dfs, hs.defers], m.tsz, fun t v ht => ?_⟩ (hK _ _ _ _ b0 b1 b2 m.ext)
    · have e : mhOps.toList.filterMap (·.dst) = [11, 12, 13, 14, 15, 16, 7, 8, 9] := by kernel_rfl
      rw [← e]; exact ht
    · simp only [addL, AFr.get_cons] at ht
      split at ht
      · rename_i e; subst e; cases ht; exact t0
      · split at ht
        · rename_i e; subst e; cases ht; exact t1
        · split at ht
          · rename_i e; subst e; cases ht; exact t2
          · cases ht
end Go.Proofs.YtibaekemfefoaaaF
