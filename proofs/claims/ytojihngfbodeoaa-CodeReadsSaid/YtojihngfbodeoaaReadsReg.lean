/- Chapter 3: a part taken by the reference, and two boxes for it, in whatever order. No condition. -/
import Derived.Test.YtojihngfbodeoaaReadsT
import Derived.Test.YtojihngfbodeoaaK23
namespace Go.Proofs.YtojihngfbodeoaaF
open Go Go.Proofs.YtojihngfbodeoaaK
set_option linter.unusedSimpArgs false
set_option linter.unusedVariables false

noncomputable def rdOps : Array Oper := Option.getD (regOps (Option.getD Try.f3.body .skip) 6) #[]
theorem rd_size : rdOps.size = 13 := by kernel_rfl
abbrev rdE : List (List Nat) := [[], [], [], [1, 2], [3], [0, 4], [5], [6], [6], [], [], [9, 7, 5, 0, 1, 2, 3, 4, 5, 6, 7, 9, 10], [10, 8, 11, 0, 1, 2, 3, 4, 5, 6, 7, 8, 9, 10, 11]]
theorem rd_edges : rdOps.toList.map edgesOf = rdE := by kernel_rfl
theorem rd_guard : (rdOps.toList.map (·.guard)) = List.replicate 13 none := by kernel_rfl
theorem rd_dst : (rdOps.toList.map (·.dst)) = [some 21, some 22, some 23, some 24, some 25, some 26, some 20, some 27, some 28, some 8, some 9, none, none] := by kernel_rfl
theorem rd_get {i : Nat} {o : Oper} (ho : rdOps[i]? = some o) : (rdOps.toList.map edgesOf)[i]? = some (edgesOf o) ∧ (rdOps.toList.map (·.guard))[i]? = some o.guard ∧ (rdOps.toList.map (·.dst))[i]? = some o.dst := by
  rw [List.getElem?_map, List.getElem?_map, List.getElem?_map, Array.getElem?_toList, ho]; exact ⟨rfl, rfl, rfl⟩
theorem rd_at {i : Nat} {o : Oper} (ho : rdOps[i]? = some o) : o = rdOps[i]! := by
  obtain ⟨h1, h2⟩ := Array.getElem?_eq_some_iff.1 ho
  rw [getElem!_pos rdOps i h1]; exact h2.symm
abbrev RT : List At := [.sl, .int .i64]
abbrev ptr (b o : Nat) : Value := .pointer (some ⟨b, o, none⟩)
abbrev rsl (s : Sl) : Value := .slice s.a s.len s.cap
abbrev resV (Y : StA PT) (Z : StA RT) : Value := mkRes [Sh.agg PT, Sh.agg RT] (Y, Z, ())
def rdD : Nat → Nat
  | 0 => 21 | 1 => 22 | 2 => 23 | 3 => 24 | 4 => 25 | 5 => 26 | 6 => 20 | 7 => 27 | _ => 28
theorem rdD_inj : ∀ i, i < 9 → ∀ j, j < 9 → i ≠ j → rdD i ≠ rdD j := by decide
theorem rdD_bd : ∀ i, i < 9 → 20 ≤ rdD i ∧ rdD i ≤ 28 := by decide
def rdV (s : Sl) (e : Int) (rl : Sl) (ix : Int) (a : Addr) (X : StA PT) (Y : StA PT) (Z : StA RT) : Nat → Value
  | 0 => .agg #[rsl s, .int .i64 e]
  | 1 => rsl rl
  | 2 => .int .i64 ix
  | 3 => .pointer (some a)
  | 4 => .agg (vsA PT X).toArray
  | 5 => resV Y Z
  | 6 => resV Y Z
  | 7 => .agg (vsA PT Y).toArray
  | _ => .agg (vsA RT Z).toArray
structure RI (V : StA PT → StA RT → Nat → Value) (C : StA PT → StA RT → Prop) (h0 : Hp) (a0 : Act) (w0 : World) (Y : StA PT) (Z : StA RT) (p q : Nat) (l : Array Bool) (a : Act) (w : World) : Prop where
  size : l.size = 13
  io : IO w0 w
  ext : Ext h0 w.heap
  dfs : a.defers = a0.defers
  tsz : a.tmps.size = 61
  keep : ∀ t, (t < 8 ∨ 9 < t) → (t < 20 ∨ 28 < t) → a.tmps[t]? = a0.tmps[t]?
  vals : ∀ j, j < 9 → Listed l j → a.tmps[rdD j]? = some (V Y Z j)
  out : Listed l 5 → C Y Z
  closed : ∀ i e, Listed l i → e ∈ rdE[i]?.getD [] → Listed l e
  bp : Listed l 9 → a.tmps[8]? = some (ptr p 0) ∧ h0.size ≤ p ∧ ∃ c, Blk w.heap p c ∧ c.size = 8 ∧ (Listed l 11 → c.toList = vsA PT Y)
  bq : Listed l 10 → a.tmps[9]? = some (ptr q 0) ∧ h0.size ≤ q ∧ ∃ c, Blk w.heap q c ∧ c.size = 2 ∧ (Listed l 12 → c.toList = vsA RT Z)
  ne : Listed l 9 → Listed l 10 → p ≠ q
variable {V : StA PT → StA RT → Nat → Value} {C : StA PT → StA RT → Prop} {h0 : Hp} {a0 : Act} {w0 : World} {Y : StA PT} {Z : StA RT} {p q : Nat} {l : Array Bool} {a : Act} {w w' : World}
theorem RI.ls (m : RI V C h0 a0 w0 Y Z p q l a w) {i : Nat} (hi : i < 13) (j : Nat) : Listed (l.setIfInBounds i true) j ↔ i = j ∨ Listed l j := listed_set (by rw [m.size]; exact hi)
/-- A value is known. -/
theorem RI.rd (m : RI V C h0 a0 w0 Y Z p q l a w) (hV : ∀ Y Z Y' Z' j, j < 5 → V Y Z j = V Y' Z' j) {j d : Nat} {v : Value} {Y' : StA PT} {Z' : StA RT} (hj : j < 9) (hd : d = rdD j) (hv : v = V Y' Z' j) (x : Ext w.heap w'.heap) (io : IO w w') (hYZ : (Y' = Y ∧ Z' = Z) ∨ (j = 5 ∧ ¬ Listed l 5)) (hC : j = 5 → C Y' Z')
    (hcl : ∀ e, e ∈ rdE[j]?.getD [] → Listed l e) : RI V C h0 a0 w0 Y' Z' p q (l.setIfInBounds j true) (a.put (some d) v) w' := by
  have ls := fun i => m.ls (i := j) (by omega) i
  have bd := rdD_bd j hj
  subst hd
  have n5 : ∀ i, j = 5 ∧ ¬ Listed l 5 → 5 < i → i < 9 ∨ i = 11 ∨ i = 12 → Listed l i → False := fun i ⟨_, h5⟩ hi hi2 hL => by
    have h6 : Listed l 6 → False := fun h => h5 (m.closed 6 5 h (by decide))
    have h7 : Listed l 7 → False := fun h => h6 (m.closed 7 6 h (by decide))
    have h8 : Listed l 8 → False := fun h => h6 (m.closed 8 6 h (by decide))
    have h11 : Listed l 11 → False := fun h => h7 (m.closed 11 7 h (by decide))
    have h12 : Listed l 12 → False := fun h => h11 (m.closed 12 11 h (by decide))
    rcases (show i = 6 ∨ i = 7 ∨ i = 8 ∨ i = 11 ∨ i = 12 by omega) with e | e | e | e | e <;> subst e
    · exact h6 hL
    · exact h7 hL
    · exact h8 hL
    · exact h11 hL
    · exact h12 hL
  refine ⟨by simp [m.size], m.io.trans io, m.ext.trans x, by rw [put_defers, m.dfs], by rw [put_size, m.tsz], fun t h1 h2 => by rw [put_tmp (by omega)]; exact m.keep t h1 h2, fun i hi hL => ?_, fun hL => ?_, fun k e hk hm => (ls e).2 (.inr (by rcases (ls k).1 hk with rfl | hk; exact hcl e hm; exact m.closed k e hk hm)), fun hL => ?_, fun hL => ?_, fun h1 h2 => m.ne (((ls _).1 h1).resolve_left (by omega)) (((ls _).1 h2).resolve_left (by omega))⟩
  · by_cases e : j = i
    · subst e; rw [put_self (by rw [m.tsz]; omega), hv]
    · have hL' := ((ls _).1 hL).resolve_left e
      rw [put_tmp (rdD_inj i hi j hj (fun h => e h.symm)), m.vals i hi hL']
      rcases hYZ with ⟨rfl, rfl⟩ | h5
      · rfl
      · have : i < 5 := by
          rcases Nat.lt_or_ge i 5 with h | h
          · exact h
          · exact (n5 i h5 (by omega) (.inl hi) hL').elim
        rw [hV Y Z Y' Z' i this]
  · by_cases e : j = 5
    · exact hC e
    · rcases hYZ with ⟨rfl, rfl⟩ | h5
      · exact m.out (((ls _).1 hL).resolve_left e)
      · exact (e h5.1).elim
  · obtain ⟨r1, r2, c, r3, r4, r5⟩ := m.bp (((ls _).1 hL).resolve_left (by omega))
    refine ⟨by rw [put_tmp (by omega)]; exact r1, r2, c, r3.ext x, r4, fun h11 => ?_⟩
    have hL11 := ((ls _).1 h11).resolve_left (by omega)
    rcases hYZ with ⟨rfl, rfl⟩ | h5
    · exact r5 hL11
    · exact (n5 11 h5 (by omega) (by omega) hL11).elim
  · obtain ⟨r1, r2, c, r3, r4, r5⟩ := m.bq (((ls _).1 hL).resolve_left (by omega))
    refine ⟨by rw [put_tmp (by omega)]; exact r1, r2, c, r3.ext x, r4, fun h12 => ?_⟩
    have hL12 := ((ls _).1 h12).resolve_left (by omega)
    rcases hYZ with ⟨rfl, rfl⟩ | h5
    · exact r5 hL12
    · exact (n5 12 h5 (by omega) (by omega) hL12).elim
/-- The first box is made. -/
theorem RI.mkp (m : RI V C h0 a0 w0 Y Z p q l a w) {c : Array Value} {e : TypeId} (hc : c.size = 8) (hw : w'.heap = w.heap.push (.cells c e)) (io : IO w w') (h9 : ¬ Listed l 9) : RI V C h0 a0 w0 Y Z w.heap.size q (l.setIfInBounds 9 true) (a.put (some 8) (ptr w.heap.size 0)) w' := by
  have ls := fun i => m.ls (i := 9) (by omega) i
  have x : Ext w.heap w'.heap := by rw [hw]; exact Ext.push _ _
  have hs0 := m.ext.size
  have h11 : ¬ Listed l 11 := fun h => h9 (m.closed 11 9 h (by decide))
  refine ⟨by simp [m.size], m.io.trans io, m.ext.trans x, by rw [put_defers, m.dfs], by rw [put_size, m.tsz], fun t h1 h2 => by rw [put_tmp (by omega)]; exact m.keep t h1 h2, fun i hi hL => ?_, fun hL => m.out (((ls _).1 hL).resolve_left (by omega)), fun k e hk hm => (ls e).2 (.inr (by rcases (ls k).1 hk with rfl | hk; exact (by revert hm; simp); exact m.closed k e hk hm)), fun hL => ?_, fun hL => ?_, fun h1 h2 => ?_⟩
  · have bd := rdD_bd i hi
    rw [put_tmp (by omega)]; exact m.vals i hi (((ls _).1 hL).resolve_left (by omega))
  · refine ⟨put_self (by rw [m.tsz]; omega), hs0, c, by rw [hw]; exact Blk.new _ _ _, hc, fun hL11 => (h11 (((ls _).1 hL11).resolve_left (by omega))).elim⟩
  · obtain ⟨r1, r2, c', r3, r4, r5⟩ := m.bq (((ls _).1 hL).resolve_left (by omega))
    exact ⟨by rw [put_tmp (by omega)]; exact r1, r2, c', r3.ext x, r4, fun hL12 => r5 (((ls _).1 hL12).resolve_left (by omega))⟩
  · obtain ⟨_, _, c', r3, _⟩ := m.bq (((ls _).1 h2).resolve_left (by omega))
    have := r3.lt
    omega
theorem RI.mkq (m : RI V C h0 a0 w0 Y Z p q l a w) {c : Array Value} {e : TypeId} (hc : c.size = 2) (hw : w'.heap = w.heap.push (.cells c e)) (io : IO w w') (h10 : ¬ Listed l 10) : RI V C h0 a0 w0 Y Z p w.heap.size (l.setIfInBounds 10 true) (a.put (some 9) (ptr w.heap.size 0)) w' := by
  have ls := fun i => m.ls (i := 10) (by omega) i
  have x : Ext w.heap w'.heap := by rw [hw]; exact Ext.push _ _
  have hs0 := m.ext.size
  have h12 : ¬ Listed l 12 := fun h => h10 (m.closed 12 10 h (by decide))
  refine ⟨by simp [m.size], m.io.trans io, m.ext.trans x, by rw [put_defers, m.dfs], by rw [put_size, m.tsz], fun t h1 h2 => by rw [put_tmp (by omega)]; exact m.keep t h1 h2, fun i hi hL => ?_, fun hL => m.out (((ls _).1 hL).resolve_left (by omega)), fun k e hk hm => (ls e).2 (.inr (by rcases (ls k).1 hk with rfl | hk; exact (by revert hm; simp); exact m.closed k e hk hm)), fun hL => ?_, fun hL => ?_, fun h1 h2 => ?_⟩
  · have bd := rdD_bd i hi
    rw [put_tmp (by omega)]; exact m.vals i hi (((ls _).1 hL).resolve_left (by omega))
  · obtain ⟨r1, r2, c', r3, r4, r5⟩ := m.bp (((ls _).1 hL).resolve_left (by omega))
    exact ⟨by rw [put_tmp (by omega)]; exact r1, r2, c', r3.ext x, r4, fun hL11 => r5 (((ls _).1 hL11).resolve_left (by omega))⟩
  · refine ⟨put_self (by rw [m.tsz]; omega), hs0, c, by rw [hw]; exact Blk.new _ _ _, hc, fun hL12 => (h12 (((ls _).1 hL12).resolve_left (by omega))).elim⟩
  · obtain ⟨_, _, c', r3, _⟩ := m.bp (((ls _).1 h1).resolve_left (by omega))
    have := r3.lt
    omega
theorem RI.stp (m : RI V C h0 a0 w0 Y Z p q l a w) (o : Only p w.heap w'.heap) (hb : Blk w'.heap p (vsA PT Y).toArray) (io : IO w w') (v : Value) (hcl : ∀ e, e ∈ rdE[11]?.getD [] → Listed l e) : RI V C h0 a0 w0 Y Z p q (l.setIfInBounds 11 true) (a.put none v) w' := by
  have ls := fun i => m.ls (i := 11) (by omega) i
  have h9 := hcl 9 (by decide)
  have h10 := hcl 10 (by decide)
  obtain ⟨q1, q2, _⟩ := m.bp h9
  refine ⟨by simp [m.size], m.io.trans io, m.ext.only_new o q2, m.dfs, m.tsz, m.keep, fun i hi hL => m.vals i hi (((ls _).1 hL).resolve_left (by omega)), fun hL => m.out (((ls _).1 hL).resolve_left (by omega)), fun k e hk hm => (ls e).2 (.inr (by rcases (ls k).1 hk with rfl | hk; exact hcl e hm; exact m.closed k e hk hm)), fun hL => ⟨q1, q2, _, hb, rfl, fun _ => rfl⟩, fun hL => ?_, fun h1 h2 => m.ne h9 h10⟩
  obtain ⟨r1, r2, c, r3, r4, r5⟩ := m.bq h10
  exact ⟨r1, r2, c, r3.only o (fun e => m.ne h9 h10 e.symm), r4, fun hL12 => r5 (((ls _).1 hL12).resolve_left (by omega))⟩
theorem RI.stq (m : RI V C h0 a0 w0 Y Z p q l a w) (o : Only q w.heap w'.heap) (hb : Blk w'.heap q (vsA RT Z).toArray) (io : IO w w') (v : Value) (hcl : ∀ e, e ∈ rdE[12]?.getD [] → Listed l e) : RI V C h0 a0 w0 Y Z p q (l.setIfInBounds 12 true) (a.put none v) w' := by
  have ls := fun i => m.ls (i := 12) (by omega) i
  have h9 := hcl 9 (by decide)
  have h10 := hcl 10 (by decide)
  obtain ⟨q1, q2, _⟩ := m.bq h10
  refine ⟨by simp [m.size], m.io.trans io, m.ext.only_new o q2, m.dfs, m.tsz, m.keep, fun i hi hL => m.vals i hi (((ls _).1 hL).resolve_left (by omega)), fun hL => m.out (((ls _).1 hL).resolve_left (by omega)), fun k e hk hm => (ls e).2 (.inr (by rcases (ls k).1 hk with rfl | hk; exact hcl e hm; exact m.closed k e hk hm)), fun hL => ?_, fun hL => ⟨q1, q2, _, hb, rfl, fun _ => rfl⟩, fun h1 h2 => m.ne h9 h10⟩
  obtain ⟨r1, r2, c, r3, r4, r5⟩ := m.bp h9
  exact ⟨r1, r2, c, r3.only o (m.ne h9 h10), r4, fun hL11 => r5 (((ls _).1 hL11).resolve_left (by omega))⟩
/-! The operations. -/
theorem ro_ld {b : Nat} {h : Hp} {K : Value → Prop} : opR Try.prog [(6, some (ptr b 0))] (rdOps[0]!) h K = ldA .sl h ⟨b, 0, none⟩ fun x => ldA (.int .i64) h (Addr.add ⟨b, 0, none⟩ 1) fun y => K (.agg #[rsl x, .int .i64 y]) := by kernel_rfl
theorem ro_mv1 {s : Sl} {h : Hp} {K : Value → Prop} : opR Try.prog [(1, some (rsl s))] (rdOps[1]!) h K = K (rsl s) := by kernel_rfl
theorem ro_mv2 {i : Int} {h : Hp} {K : Value → Prop} : opR Try.prog [(7, some (.int .i64 i))] (rdOps[2]!) h K = K (.int .i64 i) := by kernel_rfl
theorem ro_ix {s : Sl} {i : Int} {h : Hp} {K : Value → Prop} : opR Try.prog [(22, some (rsl s)), (23, some (.int .i64 i))] (rdOps[3]!) h K = idxS s.a s.len i 8 fun p => K (.pointer (some p)) := by kernel_rfl
theorem ro_ldp {a : Addr} {h : Hp} {K : Value → Prop} : opR Try.prog [(24, some (.pointer (some a)))] (rdOps[4]!) h K = ldA (.int .i64) h a fun x0 => ldA (.int .u64) h (Addr.add a 1) fun x1 => ldA (.int .i64) h (Addr.add a 2) fun x2 => ldA .bool h (Addr.add a 3) fun x3 => ldA .str h (Addr.add a 4) fun x4 => ldA (.int .i64) h (Addr.add a 5) fun x5 => ldA (.int .i64) h (Addr.add a 6) fun x6 => ldA (.int .i64) h (Addr.add a 7) fun x7 =>
    K (.agg (vsA PT (x0, x1, x2, x3, x4, x5, x6, x7, ())).toArray) := by kernel_rfl
theorem ro_call {s : Sl} {e : Int} {X : StA PT} {h : Hp} {K : Value → Hp → Prop} : opW Try.prog [(21, some (.agg #[rsl s, .int .i64 e])), (25, some (.agg (vsA PT X).toArray))] (rdOps[5]!) h K = CallT Try.prog 5 [.agg #[rsl s, .int .i64 e], .agg (vsA PT X).toArray] [Sh.agg PT, Sh.agg RT] h fun r h' => K (mkRes [Sh.agg PT, Sh.agg RT] r) h' := by kernel_rfl
theorem ro_mv6 {v : Value} {h : Hp} {K : Value → Prop} : opR Try.prog [(26, some v)] (rdOps[6]!) h K = K v := by kernel_rfl
theorem ro_ex0 {Y : StA PT} {Z : StA RT} {h : Hp} {K : Value → Prop} : opR Try.prog [(20, some (resV Y Z))] (rdOps[7]!) h K = K (.agg (vsA PT Y).toArray) := by kernel_rfl
theorem ro_ex1 {Y : StA PT} {Z : StA RT} {h : Hp} {K : Value → Prop} : opR Try.prog [(20, some (resV Y Z))] (rdOps[8]!) h K = K (.agg (vsA RT Z).toArray) := by kernel_rfl
theorem ro_mkp {h : Hp} {K : Value → Hp → Prop} : opW Try.prog [] (rdOps[9]!) h K = K (ptr h.size 0) (h.push (.cells #[.int .i64 0, .int .u64 0, .int .i64 0, .bool false, .string (ByteArray.mk #[]), .int .i64 0, .int .i64 0, .int .i64 0] 30)) := by kernel_rfl
theorem ro_mkq {h : Hp} {K : Value → Hp → Prop} : opW Try.prog [] (rdOps[10]!) h K = K (ptr h.size 0) (h.push (.cells #[.slice none 0 0, .int .i64 0] 27)) := by kernel_rfl
theorem ro_stp {p : Nat} {Y : StA PT} {h : Hp} {K : Value → Hp → Prop} : opW Try.prog [(8, some (ptr p 0)), (27, some (.agg (vsA PT Y).toArray))] (rdOps[11]!) h K = stores h ⟨p, 0, none⟩ 0 (vsA PT Y) fun h' => K undef h' := by kernel_rfl
theorem ro_stq {q : Nat} {Z : StA RT} {h : Hp} {K : Value → Hp → Prop} : opW Try.prog [(9, some (ptr q 0)), (28, some (.agg (vsA RT Z).toArray))] (rdOps[12]!) h K = stores h ⟨q, 0, none⟩ 0 (vsA RT Z) fun h' => K undef h' := by kernel_rfl
theorem rd_reg {b : Nat} {s : Sl} {e : Int} {h : Hp} (bq : Blk h b #[rsl s, .int .i64 e]) {rl : Sl} {ix : Int} {ad : Addr} (hra : rl.a = some ad) (hix : 0 ≤ ix ∧ ix < (rl.len : Int)) {X : StA PT} (hX : ∀ g, Ext h g → cellsAt g (ad.add (ix.toNat * 8)) (vsA PT X)) {C : StA PT → StA RT → Prop}
    (call : ∀ g, Ext h g → ∀ K : Value → Hp → Prop, (∀ Y Z h', Ext g h' → C Y Z → K (resV Y Z) h') → CallT Try.prog 5 [.agg #[rsl s, .int .i64 e], .agg (vsA PT X).toArray] [Sh.agg PT, Sh.agg RT] g fun r h' => K (mkRes [Sh.agg PT, Sh.agg RT] r) h')
    {K : (Option Addr) × (Option Addr) × Unit → Hp → Prop} (hK : ∀ p q Y Z h', C Y Z → Blk h' p (vsA PT Y).toArray → Blk h' q (vsA RT Z).toArray → p ≠ q → h.size ≤ p → h.size ≤ q → Ext h h' → K (some ⟨p, 0, none⟩, some ⟨q, 0, none⟩, ()) h') :
    RegW Try.prog 61 rdOps [(1, some (rsl rl)), (6, some (ptr b 0)), (7, some (.int .i64 ix))] h [(8, .at .ptr), (9, .at .ptr)] K := by
  intro lr ds a0 w0 Q hs hw hQ
  have k1 : a0.tmps[1]? = some (rsl rl) := hs.get 1 _ rfl
  have k6 : a0.tmps[6]? = some (ptr b 0) := hs.get 6 _ rfl
  have k7 : a0.tmps[7]? = some (.int .i64 ix) := hs.get 7 _ rfl
  have hac : ∀ i o, rdOps[i]? = some o → ∀ e ∈ edgesOf o, e < i := by
    intro i o ho e he
    have h1 := (rd_get ho).1
    rw [rd_edges] at h1
    match i, h1 with
    | 0, h1 | 1, h1 | 2, h1 | 3, h1 | 4, h1 | 5, h1 | 6, h1 | 7, h1 | 8, h1 | 9, h1 | 10, h1 | 11, h1 | 12, h1 => have h2 := Option.some.inj h1; rw [← h2] at he; revert he; revert e; decide
    | n + 13, h1 => simp at h1
  let V := rdV s e rl ix (ad.add (ix.toNat * 8)) X
  have hV : ∀ Y Z Y' Z' j, j < 5 → V Y Z j = V Y' Z' j := fun Y Z Y' Z' j hj => by
    match j, hj with
    | 0, _ | 1, _ | 2, _ | 3, _ | 4, _ => rfl
  have sNil : ∀ {Y Z p q l a w}, RI V C h a0 w0 Y Z p q l a w → Says ds [] 61 a := fun {Y Z p q l a w} m => ⟨by rw [m.dfs, hs.defers], m.tsz, fun t v ht => by cases ht⟩
  have s1 : ∀ {Y Z p q l a w}, RI V C h a0 w0 Y Z p q l a w → ∀ {t v}, a.tmps[t]? = some v → Says ds [(t, some v)] 61 a := fun {Y Z p q l a w} m {t v} hv => ⟨by rw [m.dfs, hs.defers], m.tsz, fun u y ht => by
    rw [AFr.get_cons] at ht
    split at ht
    · rename_i e; subst e; cases ht; exact hv
    · cases ht⟩
  have s2 : ∀ {Y Z p q l a w}, RI V C h a0 w0 Y Z p q l a w → ∀ {t v t' v'}, a.tmps[t]? = some v → a.tmps[t']? = some v' → Says ds [(t, some v), (t', some v')] 61 a := fun {Y Z p q l a w} m {t v t' v'} hv hv' => ⟨by rw [m.dfs, hs.defers], m.tsz, fun u y ht => by
    rw [AFr.get_cons] at ht
    split at ht
    · rename_i e; subst e; cases ht; exact hv
    · rw [AFr.get_cons] at ht
      split at ht
      · rename_i e; subst e; cases ht; exact hv'
      · cases ht⟩
  refine any_inv hac (fun l a w => ∃ Y Z p q, RI V C h a0 w0 Y Z p q l a w) (fun l a w ⟨_, _, _, _, m⟩ => by rw [m.size, rd_size]) ?_ ?_ _ _ _ _ ⟨X, (s, e, ()), 0, 0, by simp [rd_size], IO.drew w0, by rw [← hw]; exact Ext.refl _, rfl, hs.size, fun _ _ _ => rfl, fun j _ hL => (not_listed _ _ hL).elim, fun hL => (not_listed _ _ hL).elim, fun k _ hL => (not_listed _ _ hL).elim, fun hL => (not_listed _ _ hL).elim, fun hL => (not_listed _ _ hL).elim, fun hL => (not_listed _ _ hL).elim⟩ (by simp)
  · rintro l a w i o ⟨Y, Z, p, q, m⟩ hni ho he
    obtain ⟨hE, hG, hD⟩ := rd_get ho
    rw [rd_edges] at hE
    rw [rd_guard] at hG
    rw [rd_dst] at hD
    obtain rfl := rd_at ho
    have hcl : ∀ e, e ∈ rdE[i]?.getD [] → Listed l e := fun e hm => he e (by rw [hE] at hm; exact hm)
    match i, hE, hG, hD, ho, hni, he, hcl with
    | 0, hE, hG, hD, ho, hni, he, hcl =>
      refine step_R ho (Option.some.inj hG).symm (s1 m (t := 6) (by rw [m.keep 6 (by omega) (by omega)]; exact k6)) ?_
      rw [ro_ld]
      refine ldA_blk (s := .sl) (i := 0) (x := s) (bq.ext m.ext) rfl (ldA_blk (s := .int .i64) (i := 1) (x := e) (bq.ext m.ext) rfl ?_)
      rw [← Option.some.inj hD]
      exact ⟨Y, Z, p, q, m.rd hV (by omega) rfl rfl (Ext.refl _) (IO.refl _) (.inl ⟨rfl, rfl⟩) (by omega) hcl⟩
    | 1, hE, hG, hD, ho, hni, he, hcl =>
      refine step_R ho (Option.some.inj hG).symm (s1 m (t := 1) (by rw [m.keep 1 (by omega) (by omega)]; exact k1)) ?_
      rw [ro_mv1]
      rw [← Option.some.inj hD]
      exact ⟨Y, Z, p, q, m.rd hV (by omega) rfl rfl (Ext.refl _) (IO.refl _) (.inl ⟨rfl, rfl⟩) (by omega) hcl⟩
    | 2, hE, hG, hD, ho, hni, he, hcl =>
      refine step_R ho (Option.some.inj hG).symm (s1 m (t := 7) (by rw [m.keep 7 (by omega) (by omega)]; exact k7)) ?_
      rw [ro_mv2]
      rw [← Option.some.inj hD]
      exact ⟨Y, Z, p, q, m.rd hV (by omega) rfl rfl (Ext.refl _) (IO.refl _) (.inl ⟨rfl, rfl⟩) (by omega) hcl⟩
    | 3, hE, hG, hD, ho, hni, he, hcl =>
      refine step_R ho (Option.some.inj hG).symm (s2 m (m.vals 1 (by omega) (hcl 1 (by decide))) (m.vals 2 (by omega) (hcl 2 (by decide)))) ?_
      show opR Try.prog [(22, some (rsl rl)), (23, some (.int .i64 ix))] (rdOps[3]!) w.heap _
      rw [ro_ix, hra]
      refine ⟨hix, ?_⟩
      rw [← Option.some.inj hD]
      exact ⟨Y, Z, p, q, m.rd hV (by omega) rfl rfl (Ext.refl _) (IO.refl _) (.inl ⟨rfl, rfl⟩) (by omega) hcl⟩
    | 4, hE, hG, hD, ho, hni, he, hcl =>
      refine step_R ho (Option.some.inj hG).symm (s1 m (m.vals 3 (by omega) (hcl 3 (by decide)))) ?_
      show opR Try.prog [(24, some (.pointer (some (ad.add (ix.toNat * 8)))))] (rdOps[4]!) w.heap _
      rw [ro_ldp]
      have hc := hX _ m.ext
      refine ldA_row0 (s := .int .i64) (x := X.1) hc rfl (ldA_row (s := .int .u64) (j := 1) (x := X.2.1) hc rfl (ldA_row (s := .int .i64) (j := 2) (x := X.2.2.1) hc rfl (ldA_row (s := .bool) (j := 3) (x := X.2.2.2.1) hc rfl (ldA_row (s := .str) (j := 4) (x := X.2.2.2.2.1) hc rfl (ldA_row (s := .int .i64) (j := 5) (x := X.2.2.2.2.2.1) hc rfl (ldA_row (s := .int .i64) (j := 6) (x := X.2.2.2.2.2.2.1) hc rfl (ldA_row (s := .int .i64) (j := 7) (x := X.2.2.2.2.2.2.2.1) hc rfl ?_)))))))
      rw [← Option.some.inj hD]
      exact ⟨Y, Z, p, q, m.rd hV (by omega) rfl rfl (Ext.refl _) (IO.refl _) (.inl ⟨rfl, rfl⟩) (by omega) hcl⟩
    | 5, hE, hG, hD, ho, hni, he, hcl =>
      refine step_W ho (Option.some.inj hG).symm (s2 m (m.vals 0 (by omega) (hcl 0 (by decide))) (m.vals 4 (by omega) (hcl 4 (by decide)))) ?_
      show opW Try.prog [(21, some (.agg #[rsl s, .int .i64 e])), (25, some (.agg (vsA PT X).toArray))] (rdOps[5]!) w.heap _
      rw [ro_call]
      refine call w.heap m.ext (fun v h' => ∀ w', w'.heap = h' → IO w w' → ∃ Y Z p q, RI V C h a0 w0 Y Z p q (l.setIfInBounds 5 true) (a.put (rdOps[5]!).dst v) w') fun Y' Z' h' x' hC w' hw' io => ?_
      rw [← Option.some.inj hD]
      exact ⟨Y', Z', p, q, m.rd hV (by omega) rfl rfl (by rw [hw']; exact x') io (.inr ⟨rfl, hni⟩) (fun _ => hC) hcl⟩
    | 6, hE, hG, hD, ho, hni, he, hcl =>
      refine step_R ho (Option.some.inj hG).symm (s1 m (m.vals 5 (by omega) (hcl 5 (by decide)))) ?_
      show opR Try.prog [(26, some (resV Y Z))] (rdOps[6]!) w.heap _
      rw [ro_mv6]
      rw [← Option.some.inj hD]
      exact ⟨Y, Z, p, q, m.rd hV (by omega) rfl rfl (Ext.refl _) (IO.refl _) (.inl ⟨rfl, rfl⟩) (by omega) hcl⟩
    | 7, hE, hG, hD, ho, hni, he, hcl =>
      refine step_R ho (Option.some.inj hG).symm (s1 m (m.vals 6 (by omega) (hcl 6 (by decide)))) ?_
      show opR Try.prog [(20, some (resV Y Z))] (rdOps[7]!) w.heap _
      rw [ro_ex0]
      rw [← Option.some.inj hD]
      exact ⟨Y, Z, p, q, m.rd hV (by omega) rfl rfl (Ext.refl _) (IO.refl _) (.inl ⟨rfl, rfl⟩) (by omega) hcl⟩
    | 8, hE, hG, hD, ho, hni, he, hcl =>
      refine step_R ho (Option.some.inj hG).symm (s1 m (m.vals 6 (by omega) (hcl 6 (by decide)))) ?_
      show opR Try.prog [(20, some (resV Y Z))] (rdOps[8]!) w.heap _
      rw [ro_ex1]
      rw [← Option.some.inj hD]
      exact ⟨Y, Z, p, q, m.rd hV (by omega) rfl rfl (Ext.refl _) (IO.refl _) (.inl ⟨rfl, rfl⟩) (by omega) hcl⟩
    | 9, hE, hG, hD, ho, hni, he, hcl =>
      refine step_W ho (Option.some.inj hG).symm (sNil m) ?_
      rw [ro_mkp]
      intro w' hw' io
      rw [← Option.some.inj hD]
      exact ⟨Y, Z, _, q, m.mkp rfl hw' io hni⟩
    | 10, hE, hG, hD, ho, hni, he, hcl =>
      refine step_W ho (Option.some.inj hG).symm (sNil m) ?_
      rw [ro_mkq]
      intro w' hw' io
      rw [← Option.some.inj hD]
      exact ⟨Y, Z, p, _, m.mkq rfl hw' io hni⟩
    | 11, hE, hG, hD, ho, hni, he, hcl =>
      obtain ⟨q1, q2, c, q3, q4, q5⟩ := m.bp (hcl 9 (by decide))
      refine step_W ho (Option.some.inj hG).symm (s2 m q1 (m.vals 7 (by omega) (hcl 7 (by decide)))) ?_
      show opW Try.prog [(8, some (ptr p 0)), (27, some (.agg (vsA PT Y).toArray))] (rdOps[11]!) w.heap _
      rw [ro_stp]
      refine stores_blk q3 (by rw [q4]; rfl) fun h' b' o' _ _ w' hw' io => ?_
      rw [← Option.some.inj hD]
      exact ⟨Y, Z, p, q, m.stp (by rw [hw']; exact o') (by rw [hw']; exact b') io _ hcl⟩
    | 12, hE, hG, hD, ho, hni, he, hcl =>
      obtain ⟨q1, q2, c, q3, q4, q5⟩ := m.bq (hcl 10 (by decide))
      refine step_W ho (Option.some.inj hG).symm (s2 m q1 (m.vals 8 (by omega) (hcl 8 (by decide)))) ?_
      show opW Try.prog [(9, some (ptr q 0)), (28, some (.agg (vsA RT Z).toArray))] (rdOps[12]!) w.heap _
      rw [ro_stq]
      refine stores_blk q3 (by rw [q4]; rfl) fun h' b' o' _ _ w' hw' io => ?_
      rw [← Option.some.inj hD]
      exact ⟨Y, Z, p, q, m.stq (by rw [hw']; exact o') (by rw [hw']; exact b') io _ hcl⟩
    | n + 13, hE, hG, hD, ho, hni, he, hcl => simp at hG
  · rintro l a w ⟨Y, Z, p, q, m⟩ hall
    have ha : ∀ i, i < 13 → Listed l i := fun i hi => hall i (by rw [rd_size]; exact hi)
    obtain ⟨t0, h0, c0, b0, _, f0⟩ := m.bp (ha 9 (by omega))
    obtain ⟨t1, h1, c1, b1, _, f1⟩ := m.bq (ha 10 (by omega))
    have b0' : Blk w.heap p (vsA PT Y).toArray := by rw [← f0 (ha 11 (by omega))]; exact b0
    have b1' : Blk w.heap q (vsA RT Z).toArray := by rw [← f1 (ha 12 (by omega))]; exact b1
    refine hQ a w (some ⟨p, 0, none⟩, some ⟨q, 0, none⟩, ()) m.io (fun t ht => ?_) ⟨by rw [m.dfs, hs.defers], m.tsz, fun t v ht => ?_⟩ (hK p q Y Z _ (m.out (ha 5 (by omega))) b0' b1' (m.ne (ha 9 (by omega)) (ha 10 (by omega))) h0 h1 m.ext)
    · have e : rdOps.toList.filterMap (·.dst) = [21, 22, 23, 24, 25, 26, 20, 27, 28, 8, 9] := by kernel_rfl
      rw [e] at ht
      have hn : ∀ x ∈ [21, 22, 23, 24, 25, 26, 20, 27, 28, 8, 9], t ≠ x := fun x hx e => by
        subst e
        simp only [List.mem_cons, List.not_mem_nil, or_false] at hx
        rcases hx with e | e | e | e | e | e | e | e | e | e | e <;> subst e <;> simp [hasN] at ht
      have := hn 8 (by simp); have := hn 9 (by simp); have := hn 20 (by simp); have := hn 21 (by simp); have := hn 22 (by simp); have := hn 23 (by simp)
      have := hn 24 (by simp); have := hn 25 (by simp); have := hn 26 (by simp); have := hn 27 (by simp); have := hn 28 (by simp)
      exact m.keep t (by omega) (by omega)
    · simp only [addL, AFr.get_cons] at ht
      split at ht
      · rename_i e; subst e; cases ht; exact t0
      · split at ht
        · rename_i e; subst e; cases ht; exact t1
        · cases ht
end Go.Proofs.YtojihngfbodeoaaF
