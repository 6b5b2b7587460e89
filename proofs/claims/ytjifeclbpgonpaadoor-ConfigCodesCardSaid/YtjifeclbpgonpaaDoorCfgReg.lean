/- Chapter 28: a number taken by the reference, and two boxes for it, in whatever order. No condition. -/
import Derived.Test.YtjifeclbpgonpaaDoorCfgBack
import Derived.Test.YtjifeclbpgonpaaDoorK23
namespace Go.Proofs.YtjifeclbpgonpaaDoorF
open Go Go.Proofs.YtjifeclbpgonpaaDoorK
set_option linter.unusedSimpArgs false
set_option linter.unusedVariables false

noncomputable def rdOps : Array Oper := Option.getD (regOps (Option.getD Tryd.f3.body .skip) 11) #[]
theorem rd_size : rdOps.size = 18 := by kernel_rfl
abbrev rdE : List (List Nat) := [[], [], [], [1, 2], [3], [], [], [5, 6], [7], [4, 8], [0, 9], [10], [11], [11], [], [], [14, 12, 10, 0, 1, 2, 3, 4, 5, 6, 7, 8, 9, 10, 11, 12, 14, 15], [15, 13, 16, 0, 1, 2, 3, 4, 5, 6, 7, 8, 9, 10, 11, 12, 13, 14, 15, 16]]
theorem rd_edges : rdOps.toList.map edgesOf = rdE := by kernel_rfl
theorem rd_guard : (rdOps.toList.map (·.guard)) = List.replicate 18 none := by kernel_rfl
theorem rd_dst : (rdOps.toList.map (·.dst)) = [some 49, some 50, some 51, some 52, some 53, some 54, some 55, some 56, some 57, some 58, some 59, some 48, some 60, some 61, some 14, some 15, none, none] := by kernel_rfl
theorem rd_get {i : Nat} {o : Oper} (ho : rdOps[i]? = some o) : (rdOps.toList.map edgesOf)[i]? = some (edgesOf o) ∧ (rdOps.toList.map (·.guard))[i]? = some o.guard ∧ (rdOps.toList.map (·.dst))[i]? = some o.dst := by
  rw [List.getElem?_map, List.getElem?_map, List.getElem?_map, Array.getElem?_toList, ho]; exact ⟨rfl, rfl, rfl⟩
theorem rd_at {i : Nat} {o : Oper} (ho : rdOps[i]? = some o) : o = rdOps[i]! := by
  obtain ⟨h1, h2⟩ := Array.getElem?_eq_some_iff.1 ho
  rw [getElem!_pos rdOps i h1]; exact h2.symm
abbrev RT : List At := [.sl, .int .i64]
abbrev rsl (s : Sl) : Value := .slice s.a s.len s.cap
abbrev resV (Y : StA PT) (Z : StA RT) : Value := mkRes [Sh.agg PT, Sh.agg RT] (Y, Z, ())
def rdD : Nat → Nat
  | 0 => 49 | 1 => 50 | 2 => 51 | 3 => 52 | 4 => 53 | 5 => 54 | 6 => 55 | 7 => 56 | 8 => 57 | 9 => 58 | 10 => 59 | 11 => 48 | 12 => 60 | _ => 61
theorem rdD_inj : ∀ i, i < 14 → ∀ j, j < 14 → i ≠ j → rdD i ≠ rdD j := by decide
theorem rdD_bd : ∀ i, i < 14 → 48 ≤ rdD i ∧ rdD i ≤ 61 := by decide
abbrev ptX (lo hi : Int) : StA PT := (1, 0, 0, false, ByteArray.mk #[], lo, hi, 0, ())
def rdV (s : Sl) (e : Int) (rl rh : Sl) (ix lo hi : Int) (a b : Addr) (Y : StA PT) (Z : StA RT) : Nat → Value
  | 0 => .agg #[rsl s, .int .i64 e]
  | 1 => rsl rl
  | 2 => .int .i64 ix
  | 3 => .pointer (some a)
  | 4 => .int .i64 lo
  | 5 => rsl rh
  | 6 => .int .i64 ix
  | 7 => .pointer (some b)
  | 8 => .int .i64 hi
  | 9 => .agg (vsA PT (ptX lo hi)).toArray
  | 10 => resV Y Z
  | 11 => resV Y Z
  | 12 => .agg (vsA PT Y).toArray
  | _ => .agg (vsA RT Z).toArray
structure RI (V : StA PT → StA RT → Nat → Value) (C : StA PT → StA RT → Prop) (h0 : Hp) (a0 : Act) (w0 : World) (Y : StA PT) (Z : StA RT) (p q : Nat) (l : Array Bool) (a : Act) (w : World) : Prop where
  size : l.size = 18
  io : IO w0 w
  ext : Ext h0 w.heap
  dfs : a.defers = a0.defers
  tsz : a.tmps.size = 132
  keep : ∀ t, (t < 14 ∨ 15 < t) → (t < 48 ∨ 61 < t) → a.tmps[t]? = a0.tmps[t]?
  vals : ∀ j, j < 14 → Listed l j → a.tmps[rdD j]? = some (V Y Z j)
  out : Listed l 10 → C Y Z
  closed : ∀ i e, Listed l i → e ∈ rdE[i]?.getD [] → Listed l e
  bp : Listed l 14 → a.tmps[14]? = some (ptr p 0) ∧ h0.size ≤ p ∧ ∃ c, Blk w.heap p c ∧ c.size = 8 ∧ (Listed l 16 → c.toList = vsA PT Y)
  bq : Listed l 15 → a.tmps[15]? = some (ptr q 0) ∧ h0.size ≤ q ∧ ∃ c, Blk w.heap q c ∧ c.size = 2 ∧ (Listed l 17 → c.toList = vsA RT Z)
  ne : Listed l 14 → Listed l 15 → p ≠ q
variable {V : StA PT → StA RT → Nat → Value} {C : StA PT → StA RT → Prop} {h0 : Hp} {a0 : Act} {w0 : World} {Y : StA PT} {Z : StA RT} {p q : Nat} {l : Array Bool} {a : Act} {w w' : World}
theorem RI.ls (m : RI V C h0 a0 w0 Y Z p q l a w) {i : Nat} (hi : i < 18) (j : Nat) : Listed (l.setIfInBounds i true) j ↔ i = j ∨ Listed l j := listed_set (by rw [m.size]; exact hi)
/-- A value is known. -/
theorem RI.rd (m : RI V C h0 a0 w0 Y Z p q l a w) (hV : ∀ Y Z Y' Z' j, j < 10 → V Y Z j = V Y' Z' j) {j d : Nat} {v : Value} {Y' : StA PT} {Z' : StA RT} (hj : j < 14) (hd : d = rdD j) (hv : v = V Y' Z' j) (x : Ext w.heap w'.heap) (io : IO w w') (hYZ : (Y' = Y ∧ Z' = Z) ∨ (j = 10 ∧ ¬ Listed l 10)) (hC : j = 10 → C Y' Z')
    (hcl : ∀ e, e ∈ rdE[j]?.getD [] → Listed l e) : RI V C h0 a0 w0 Y' Z' p q (l.setIfInBounds j true) (a.put (some d) v) w' := by
  have ls := fun i => m.ls (i := j) (by omega) i
  have bd := rdD_bd j hj
  subst hd
  have n5 : ∀ i, j = 10 ∧ ¬ Listed l 10 → 10 < i → i < 14 ∨ i = 16 ∨ i = 17 → Listed l i → False := fun i ⟨_, h5⟩ hi hi2 hL => by
    have h6 : Listed l 11 → False := fun h => h5 (m.closed 11 10 h (by decide))
    have h7 : Listed l 12 → False := fun h => h6 (m.closed 12 11 h (by decide))
    have h8 : Listed l 13 → False := fun h => h6 (m.closed 13 11 h (by decide))
    have h11 : Listed l 16 → False := fun h => h7 (m.closed 16 12 h (by decide))
    have h12 : Listed l 17 → False := fun h => h11 (m.closed 17 16 h (by decide))
    rcases (show i = 11 ∨ i = 12 ∨ i = 13 ∨ i = 16 ∨ i = 17 by omega) with e | e | e | e | e <;> subst e
    · exact h6 hL
    · exact h7 hL
    · exact h8 hL
    · exact h11 hL
    · exact h12 hL
  refine ⟨by simp [m.size], m.io.trans io, m.ext.trans x, by rw [put_defers, m.dfs], by rw [put_size, m.tsz], fun t h1 h2 => by rw [put_tmp (by omega)]; exact m.keep t h1 h2, fun i hi hL => ?_, fun hL => ?_, fun k e hk hm => (ls e).2 (.inr (by rcases (ls k).1 hk with rfl | hk; exact hcl e hm; exact m.closed k e hk hm)), fun hL => ?_, fun hL => ?_, fun h1 h2 => m.ne (((ls _).1 h1).resolve_left (by omega)) (((ls _).1 h2).resolve_left (by omega))⟩
  · by_cases e : j = i
    · subst e; rw [put_self (by rw [m.tsz]; omega), hv]
    · have hL' := ((ls _).1 hL).resolve_left e
      rw [put_tmp (rdD_inj i hi j hj (fun h => e h.symm)), m.vals i hi hL']
      rcases hYZ with ⟨rfl, rfl⟩ | h5
      · rfl
      · have : i < 10 := by
          rcases Nat.lt_or_ge i 10 with h | h
          · exact h
          · exact (n5 i h5 (by omega) (.inl hi) hL').elim
        rw [hV Y Z Y' Z' i this]
  · by_cases e : j = 10
    · exact hC e
    · rcases hYZ with ⟨rfl, rfl⟩ | h5
      · exact m.out (((ls _).1 hL).resolve_left e)
      · exact (e h5.1).elim
  · obtain ⟨r1, r2, c, r3, r4, r5⟩ := m.bp (((ls _).1 hL).resolve_left (by omega))
    refine ⟨by rw [put_tmp (by omega)]; exact r1, r2, c, r3.ext x, r4, fun h11 => ?_⟩
    have hL11 := ((ls _).1 h11).resolve_left (by omega)
    rcases hYZ with ⟨rfl, rfl⟩ | h5
    · exact r5 hL11
    · exact (n5 16 h5 (by omega) (by omega) hL11).elim
  · obtain ⟨r1, r2, c, r3, r4, r5⟩ := m.bq (((ls _).1 hL).resolve_left (by omega))
    refine ⟨by rw [put_tmp (by omega)]; exact r1, r2, c, r3.ext x, r4, fun h12 => ?_⟩
    have hL12 := ((ls _).1 h12).resolve_left (by omega)
    rcases hYZ with ⟨rfl, rfl⟩ | h5
    · exact r5 hL12
    · exact (n5 17 h5 (by omega) (by omega) hL12).elim
/-- The first box is made. -/
theorem RI.mkp (m : RI V C h0 a0 w0 Y Z p q l a w) {c : Array Value} {e : TypeId} (hc : c.size = 8) (hw : w'.heap = w.heap.push (.cells c e)) (io : IO w w') (h9 : ¬ Listed l 14) : RI V C h0 a0 w0 Y Z w.heap.size q (l.setIfInBounds 14 true) (a.put (some 14) (ptr w.heap.size 0)) w' := by
  have ls := fun i => m.ls (i := 14) (by omega) i
  have x : Ext w.heap w'.heap := by rw [hw]; exact Ext.push _ _
  have hs0 := m.ext.size
  have h11 : ¬ Listed l 16 := fun h => h9 (m.closed 16 14 h (by decide))
  refine ⟨by simp [m.size], m.io.trans io, m.ext.trans x, by rw [put_defers, m.dfs], by rw [put_size, m.tsz], fun t h1 h2 => by rw [put_tmp (by omega)]; exact m.keep t h1 h2, fun i hi hL => ?_, fun hL => m.out (((ls _).1 hL).resolve_left (by omega)), fun k e hk hm => (ls e).2 (.inr (by rcases (ls k).1 hk with rfl | hk; exact (by revert hm; simp); exact m.closed k e hk hm)), fun hL => ?_, fun hL => ?_, fun h1 h2 => ?_⟩
  · have bd := rdD_bd i hi
    rw [put_tmp (by omega)]; exact m.vals i hi (((ls _).1 hL).resolve_left (by omega))
  · refine ⟨put_self (by rw [m.tsz]; omega), hs0, c, by rw [hw]; exact Blk.new _ _ _, hc, fun hL11 => (h11 (((ls _).1 hL11).resolve_left (by omega))).elim⟩
  · obtain ⟨r1, r2, c', r3, r4, r5⟩ := m.bq (((ls _).1 hL).resolve_left (by omega))
    exact ⟨by rw [put_tmp (by omega)]; exact r1, r2, c', r3.ext x, r4, fun hL12 => r5 (((ls _).1 hL12).resolve_left (by omega))⟩
  · obtain ⟨_, _, c', r3, _⟩ := m.bq (((ls _).1 h2).resolve_left (by omega))
    have := r3.lt
    omega
theorem RI.mkq (m : RI V C h0 a0 w0 Y Z p q l a w) {c : Array Value} {e : TypeId} (hc : c.size = 2) (hw : w'.heap = w.heap.push (.cells c e)) (io : IO w w') (h10 : ¬ Listed l 15) : RI V C h0 a0 w0 Y Z p w.heap.size (l.setIfInBounds 15 true) (a.put (some 15) (ptr w.heap.size 0)) w' := by
  have ls := fun i => m.ls (i := 15) (by omega) i
  have x : Ext w.heap w'.heap := by rw [hw]; exact Ext.push _ _
  have hs0 := m.ext.size
  have h12 : ¬ Listed l 17 := fun h => h10 (m.closed 17 15 h (by decide))
  refine ⟨by simp [m.size], m.io.trans io, m.ext.trans x, by rw [put_defers, m.dfs], by rw [put_size, m.tsz], fun t h1 h2 => by rw [put_tmp (by omega)]; exact m.keep t h1 h2, fun i hi hL => ?_, fun hL => m.out (((ls _).1 hL).resolve_left (by omega)), fun k e hk hm => (ls e).2 (.inr (by rcases (ls k).1 hk with rfl | hk; exact (by revert hm; simp); exact m.closed k e hk hm)), fun hL => ?_, fun hL => ?_, fun h1 h2 => ?_⟩
  · have bd := rdD_bd i hi
    rw [put_tmp (by omega)]; exact m.vals i hi (((ls _).1 hL).resolve_left (by omega))
  · obtain ⟨r1, r2, c', r3, r4, r5⟩ := m.bp (((ls _).1 hL).resolve_left (by omega))
    exact ⟨by rw [put_tmp (by omega)]; exact r1, r2, c', r3.ext x, r4, fun hL11 => r5 (((ls _).1 hL11).resolve_left (by omega))⟩
  · refine ⟨put_self (by rw [m.tsz]; omega), hs0, c, by rw [hw]; exact Blk.new _ _ _, hc, fun hL12 => (h12 (((ls _).1 hL12).resolve_left (by omega))).elim⟩
  · obtain ⟨_, _, c', r3, _⟩ := m.bp (((ls _).1 h1).resolve_left (by omega))
    have := r3.lt
    omega
theorem RI.stp (m : RI V C h0 a0 w0 Y Z p q l a w) (o : Only p w.heap w'.heap) (hb : Blk w'.heap p (vsA PT Y).toArray) (io : IO w w') (v : Value) (hcl : ∀ e, e ∈ rdE[16]?.getD [] → Listed l e) : RI V C h0 a0 w0 Y Z p q (l.setIfInBounds 16 true) (a.put none v) w' := by
  have ls := fun i => m.ls (i := 16) (by omega) i
  have h9 := hcl 14 (by decide)
  have h10 := hcl 15 (by decide)
  obtain ⟨q1, q2, _⟩ := m.bp h9
  refine ⟨by simp [m.size], m.io.trans io, m.ext.only_new o q2, m.dfs, m.tsz, m.keep, fun i hi hL => m.vals i hi (((ls _).1 hL).resolve_left (by omega)), fun hL => m.out (((ls _).1 hL).resolve_left (by omega)), fun k e hk hm => (ls e).2 (.inr (by rcases (ls k).1 hk with rfl | hk; exact hcl e hm; exact m.closed k e hk hm)), fun hL => ⟨q1, q2, _, hb, rfl, fun _ => rfl⟩, fun hL => ?_, fun h1 h2 => m.ne h9 h10⟩
  obtain ⟨r1, r2, c, r3, r4, r5⟩ := m.bq h10
  exact ⟨r1, r2, c, r3.only o (fun e => m.ne h9 h10 e.symm), r4, fun hL12 => r5 (((ls _).1 hL12).resolve_left (by omega))⟩
theorem RI.stq (m : RI V C h0 a0 w0 Y Z p q l a w) (o : Only q w.heap w'.heap) (hb : Blk w'.heap q (vsA RT Z).toArray) (io : IO w w') (v : Value) (hcl : ∀ e, e ∈ rdE[17]?.getD [] → Listed l e) : RI V C h0 a0 w0 Y Z p q (l.setIfInBounds 17 true) (a.put none v) w' := by
  have ls := fun i => m.ls (i := 17) (by omega) i
  have h9 := hcl 14 (by decide)
  have h10 := hcl 15 (by decide)
  obtain ⟨q1, q2, _⟩ := m.bq h10
  refine ⟨by simp [m.size], m.io.trans io, m.ext.only_new o q2, m.dfs, m.tsz, m.keep, fun i hi hL => m.vals i hi (((ls _).1 hL).resolve_left (by omega)), fun hL => m.out (((ls _).1 hL).resolve_left (by omega)), fun k e hk hm => (ls e).2 (.inr (by rcases (ls k).1 hk with rfl | hk; exact hcl e hm; exact m.closed k e hk hm)), fun hL => ?_, fun hL => ⟨q1, q2, _, hb, rfl, fun _ => rfl⟩, fun h1 h2 => m.ne h9 h10⟩
  obtain ⟨r1, r2, c, r3, r4, r5⟩ := m.bp h9
  exact ⟨r1, r2, c, r3.only o (m.ne h9 h10), r4, fun hL11 => r5 (((ls _).1 hL11).resolve_left (by omega))⟩
/-! The operations. -/
theorem ro_ld {b : Nat} {h : Hp} {K : Value → Prop} : opR Tryd.prog [(11, some (ptr b 0))] (rdOps[0]!) h K = ldA .sl h ⟨b, 0, none⟩ fun x => ldA (.int .i64) h (Addr.add ⟨b, 0, none⟩ 1) fun y => K (.agg #[rsl x, .int .i64 y]) := by kernel_rfl
theorem ro_mv1 {s : Sl} {h : Hp} {K : Value → Prop} : opR Tryd.prog [(7, some (rsl s))] (rdOps[1]!) h K = K (rsl s) := by kernel_rfl
theorem ro_mv2 {i : Int} {h : Hp} {K : Value → Prop} : opR Tryd.prog [(13, some (.int .i64 i))] (rdOps[2]!) h K = K (.int .i64 i) := by kernel_rfl
theorem ro_ix {s : Sl} {i : Int} {h : Hp} {K : Value → Prop} : opR Tryd.prog [(50, some (rsl s)), (51, some (.int .i64 i))] (rdOps[3]!) h K = idxS s.a s.len i 1 fun p => K (.pointer (some p)) := by kernel_rfl
theorem ro_ldi {a : Addr} {h : Hp} {K : Value → Prop} : opR Tryd.prog [(52, some (.pointer (some a)))] (rdOps[4]!) h K = ldA (.int .i64) h a fun x => K (.int .i64 x) := by kernel_rfl
theorem ro_mv5 {s : Sl} {h : Hp} {K : Value → Prop} : opR Tryd.prog [(8, some (rsl s))] (rdOps[5]!) h K = K (rsl s) := by kernel_rfl
theorem ro_mv6' {i : Int} {h : Hp} {K : Value → Prop} : opR Tryd.prog [(13, some (.int .i64 i))] (rdOps[6]!) h K = K (.int .i64 i) := by kernel_rfl
theorem ro_ix2 {s : Sl} {i : Int} {h : Hp} {K : Value → Prop} : opR Tryd.prog [(54, some (rsl s)), (55, some (.int .i64 i))] (rdOps[7]!) h K = idxS s.a s.len i 1 fun p => K (.pointer (some p)) := by kernel_rfl
theorem ro_ldi2 {a : Addr} {h : Hp} {K : Value → Prop} : opR Tryd.prog [(56, some (.pointer (some a)))] (rdOps[8]!) h K = ldA (.int .i64) h a fun x => K (.int .i64 x) := by kernel_rfl
theorem ro_bld {lo hi : Int} {h : Hp} {K : Value → Prop} : opR Tryd.prog [(53, some (.int .i64 lo)), (57, some (.int .i64 hi))] (rdOps[9]!) h K = K (.agg (vsA PT (ptX lo hi)).toArray) := by kernel_rfl
theorem ro_call {s : Sl} {e : Int} {X : StA PT} {h : Hp} {K : Value → Hp → Prop} : opW Tryd.prog [(49, some (.agg #[rsl s, .int .i64 e])), (58, some (.agg (vsA PT X).toArray))] (rdOps[10]!) h K = CallT Tryd.prog N_ref03_Take [.agg #[rsl s, .int .i64 e], .agg (vsA PT X).toArray] [Sh.agg PT, Sh.agg RT] h fun r h' => K (mkRes [Sh.agg PT, Sh.agg RT] r) h' := by kernel_rfl
theorem ro_mv6 {v : Value} {h : Hp} {K : Value → Prop} : opR Tryd.prog [(59, some v)] (rdOps[11]!) h K = K v := by kernel_rfl
theorem ro_ex0 {Y : StA PT} {Z : StA RT} {h : Hp} {K : Value → Prop} : opR Tryd.prog [(48, some (resV Y Z))] (rdOps[12]!) h K = K (.agg (vsA PT Y).toArray) := by kernel_rfl
theorem ro_ex1 {Y : StA PT} {Z : StA RT} {h : Hp} {K : Value → Prop} : opR Tryd.prog [(48, some (resV Y Z))] (rdOps[13]!) h K = K (.agg (vsA RT Z).toArray) := by kernel_rfl
theorem ro_mkp {h : Hp} {K : Value → Hp → Prop} : opW Tryd.prog [] (rdOps[14]!) h K = K (ptr h.size 0) (h.push (.cells #[.int .i64 0, .int .u64 0, .int .i64 0, .bool false, .string (ByteArray.mk #[]), .int .i64 0, .int .i64 0, .int .i64 0] T_waywiserref03_Part)) := by kernel_rfl
theorem ro_mkq {h : Hp} {K : Value → Hp → Prop} : opW Tryd.prog [] (rdOps[15]!) h K = K (ptr h.size 0) (h.push (.cells #[.slice none 0 0, .int .i64 0] T_waywiserref03_Reader)) := by kernel_rfl
theorem ro_stp {p : Nat} {Y : StA PT} {h : Hp} {K : Value → Hp → Prop} : opW Tryd.prog [(14, some (ptr p 0)), (60, some (.agg (vsA PT Y).toArray))] (rdOps[16]!) h K = stores h ⟨p, 0, none⟩ 0 (vsA PT Y) fun h' => K undef h' := by kernel_rfl
theorem ro_stq {q : Nat} {Z : StA RT} {h : Hp} {K : Value → Hp → Prop} : opW Tryd.prog [(15, some (ptr q 0)), (61, some (.agg (vsA RT Z).toArray))] (rdOps[17]!) h K = stores h ⟨q, 0, none⟩ 0 (vsA RT Z) fun h' => K undef h' := by kernel_rfl
theorem rd_reg {b : Nat} {s : Sl} {e : Int} {h : Hp} (bq : Blk h b #[rsl s, .int .i64 e]) {rl rh : Sl} {ix lo hi : Int} {ad bd : Addr} (hra : rl.a = some ad) (hix : 0 ≤ ix ∧ ix < (rl.len : Int)) (hlo : hcell h (ad.add (ix.toNat * 1)) = some (.int .i64 lo)) (hrb : rh.a = some bd) (hix2 : 0 ≤ ix ∧ ix < (rh.len : Int)) (hhi : hcell h (bd.add (ix.toNat * 1)) = some (.int .i64 hi)) {C : StA PT → StA RT → Prop}
    (call : ∀ g, Ext h g → ∀ K : Value → Hp → Prop, (∀ Y Z h', Ext g h' → C Y Z → K (resV Y Z) h') → CallT Tryd.prog N_ref03_Take [.agg #[rsl s, .int .i64 e], .agg (vsA PT (ptX lo hi)).toArray] [Sh.agg PT, Sh.agg RT] g fun r h' => K (mkRes [Sh.agg PT, Sh.agg RT] r) h')
    {K : (Option Addr) × (Option Addr) × Unit → Hp → Prop} (hK : ∀ p q Y Z h', C Y Z → Blk h' p (vsA PT Y).toArray → Blk h' q (vsA RT Z).toArray → p ≠ q → h.size ≤ p → h.size ≤ q → Ext h h' → K (some ⟨p, 0, none⟩, some ⟨q, 0, none⟩, ()) h') :
    RegW Tryd.prog 132 rdOps [(7, some (rsl rl)), (8, some (rsl rh)), (11, some (ptr b 0)), (13, some (.int .i64 ix))] h [(14, .at .ptr), (15, .at .ptr)] K := by
  intro lr ds a0 w0 Q hs hw hQ
  have k7 : a0.tmps[7]? = some (rsl rl) := hs.get 7 _ rfl
  have k8 : a0.tmps[8]? = some (rsl rh) := hs.get 8 _ rfl
  have k11 : a0.tmps[11]? = some (ptr b 0) := hs.get 11 _ rfl
  have k13 : a0.tmps[13]? = some (.int .i64 ix) := hs.get 13 _ rfl
  have hac : ∀ i o, rdOps[i]? = some o → ∀ e ∈ edgesOf o, e < i := by
    intro i o ho e he
    have h1 := (rd_get ho).1
    rw [rd_edges] at h1
    match i, h1 with
    | 0, h1 | 1, h1 | 2, h1 | 3, h1 | 4, h1 | 5, h1 | 6, h1 | 7, h1 | 8, h1 | 9, h1 | 10, h1 | 11, h1 | 12, h1 | 13, h1 | 14, h1 | 15, h1 | 16, h1 | 17, h1 => have h2 := Option.some.inj h1; rw [← h2] at he; revert he; revert e; decide
    | n + 18, h1 => simp at h1
  let V := rdV s e rl rh ix lo hi (ad.add (ix.toNat * 1)) (bd.add (ix.toNat * 1))
  have hV : ∀ Y Z Y' Z' j, j < 10 → V Y Z j = V Y' Z' j := fun Y Z Y' Z' j hj => by
    match j, hj with
    | 0, _ | 1, _ | 2, _ | 3, _ | 4, _ | 5, _ | 6, _ | 7, _ | 8, _ | 9, _ => rfl
  have sNil : ∀ {Y Z p q l a w}, RI V C h a0 w0 Y Z p q l a w → Says ds [] 132 a := fun {Y Z p q l a w} m => ⟨by rw [m.dfs, hs.defers], m.tsz, fun t v ht => by cases ht⟩
  have s1 : ∀ {Y Z p q l a w}, RI V C h a0 w0 Y Z p q l a w → ∀ {t v}, a.tmps[t]? = some v → Says ds [(t, some v)] 132 a := fun {Y Z p q l a w} m {t v} hv => ⟨by rw [m.dfs, hs.defers], m.tsz, fun u y ht => by
    rw [AFr.get_cons] at ht
    split at ht
    · rename_i e; subst e; cases ht; exact hv
    · cases ht⟩
  have s2 : ∀ {Y Z p q l a w}, RI V C h a0 w0 Y Z p q l a w → ∀ {t v t' v'}, a.tmps[t]? = some v → a.tmps[t']? = some v' → Says ds [(t, some v), (t', some v')] 132 a := fun {Y Z p q l a w} m {t v t' v'} hv hv' => ⟨by rw [m.dfs, hs.defers], m.tsz, fun u y ht => by
    rw [AFr.get_cons] at ht
    split at ht
    · rename_i e; subst e; cases ht; exact hv
    · rw [AFr.get_cons] at ht
      split at ht
      · rename_i e; subst e; cases ht; exact hv'
      · cases ht⟩
  refine any_inv hac (fun l a w => ∃ Y Z p q, RI V C h a0 w0 Y Z p q l a w) (fun l a w ⟨_, _, _, _, m⟩ => by rw [m.size, rd_size]) ?_ ?_ _ _ _ _ ⟨ptX lo hi, (s, e, ()), 0, 0, by simp [rd_size], IO.drew w0, by rw [← hw]; exact Ext.refl _, rfl, hs.size, fun _ _ _ => rfl, fun j _ hL => (not_listed _ _ hL).elim, fun hL => (not_listed _ _ hL).elim, fun k _ hL => (not_listed _ _ hL).elim, fun hL => (not_listed _ _ hL).elim, fun hL => (not_listed _ _ hL).elim, fun hL => (not_listed _ _ hL).elim⟩ (by simp)
  · rintro l a w i o ⟨Y, Z, p, q, m⟩ hni ho he
    obtain ⟨hE, hG, hD⟩ := rd_get ho
    rw [rd_edges] at hE
    rw [rd_guard] at hG
    rw [rd_dst] at hD
    obtain rfl := rd_at ho
    have hcl : ∀ e, e ∈ rdE[i]?.getD [] → Listed l e := fun e hm => he e (by rw [hE] at hm; exact hm)
    match i, hE, hG, hD, ho, hni, he, hcl with
    | 0, hE, hG, hD, ho, hni, he, hcl =>
      refine step_R ho (Option.some.inj hG).symm (s1 m (t := 11) (by rw [m.keep 11 (by omega) (by omega)]; exact k11)) ?_
      rw [ro_ld]
      refine ldA_blk (s := .sl) (i := 0) (x := s) (bq.ext m.ext) rfl (ldA_blk (s := .int .i64) (i := 1) (x := e) (bq.ext m.ext) rfl ?_)
      rw [← Option.some.inj hD]
      exact ⟨Y, Z, p, q, m.rd hV (by omega) rfl rfl (Ext.refl _) (IO.refl _) (.inl ⟨rfl, rfl⟩) (by omega) hcl⟩
    | 1, hE, hG, hD, ho, hni, he, hcl =>
      refine step_R ho (Option.some.inj hG).symm (s1 m (t := 7) (by rw [m.keep 7 (by omega) (by omega)]; exact k7)) ?_
      rw [ro_mv1]
      rw [← Option.some.inj hD]
      exact ⟨Y, Z, p, q, m.rd hV (by omega) rfl rfl (Ext.refl _) (IO.refl _) (.inl ⟨rfl, rfl⟩) (by omega) hcl⟩
    | 2, hE, hG, hD, ho, hni, he, hcl =>
      refine step_R ho (Option.some.inj hG).symm (s1 m (t := 13) (by rw [m.keep 13 (by omega) (by omega)]; exact k13)) ?_
      rw [ro_mv2]
      rw [← Option.some.inj hD]
      exact ⟨Y, Z, p, q, m.rd hV (by omega) rfl rfl (Ext.refl _) (IO.refl _) (.inl ⟨rfl, rfl⟩) (by omega) hcl⟩
    | 3, hE, hG, hD, ho, hni, he, hcl =>
      refine step_R ho (Option.some.inj hG).symm (s2 m (m.vals 1 (by omega) (hcl 1 (by decide))) (m.vals 2 (by omega) (hcl 2 (by decide)))) ?_
      show opR Tryd.prog [(50, some (rsl rl)), (51, some (.int .i64 ix))] (rdOps[3]!) w.heap _
      rw [ro_ix, hra]
      refine ⟨hix, ?_⟩
      rw [← Option.some.inj hD]
      exact ⟨Y, Z, p, q, m.rd hV (by omega) rfl rfl (Ext.refl _) (IO.refl _) (.inl ⟨rfl, rfl⟩) (by omega) hcl⟩
    | 4, hE, hG, hD, ho, hni, he, hcl =>
      refine step_R ho (Option.some.inj hG).symm (s1 m (m.vals 3 (by omega) (hcl 3 (by decide)))) ?_
      show opR Tryd.prog [(52, some (.pointer (some (ad.add (ix.toNat * 1)))))] (rdOps[4]!) w.heap _
      rw [ro_ldi]
      refine ⟨lo, m.ext.cell hlo, ?_⟩
      rw [← Option.some.inj hD]
      exact ⟨Y, Z, p, q, m.rd hV (by omega) rfl rfl (Ext.refl _) (IO.refl _) (.inl ⟨rfl, rfl⟩) (by omega) hcl⟩
    | 5, hE, hG, hD, ho, hni, he, hcl =>
      refine step_R ho (Option.some.inj hG).symm (s1 m (t := 8) (by rw [m.keep 8 (by omega) (by omega)]; exact k8)) ?_
      rw [ro_mv5]
      rw [← Option.some.inj hD]
      exact ⟨Y, Z, p, q, m.rd hV (by omega) rfl rfl (Ext.refl _) (IO.refl _) (.inl ⟨rfl, rfl⟩) (by omega) hcl⟩
    | 6, hE, hG, hD, ho, hni, he, hcl =>
      refine step_R ho (Option.some.inj hG).symm (s1 m (t := 13) (by rw [m.keep 13 (by omega) (by omega)]; exact k13)) ?_
      rw [ro_mv6']
      rw [← Option.some.inj hD]
      exact ⟨Y, Z, p, q, m.rd hV (by omega) rfl rfl (Ext.refl _) (IO.refl _) (.inl ⟨rfl, rfl⟩) (by omega) hcl⟩
    | 7, hE, hG, hD, ho, hni, he, hcl =>
      refine step_R ho (Option.some.inj hG).symm (s2 m (m.vals 5 (by omega) (hcl 5 (by decide))) (m.vals 6 (by omega) (hcl 6 (by decide)))) ?_
      show opR Tryd.prog [(54, some (rsl rh)), (55, some (.int .i64 ix))] (rdOps[7]!) w.heap _
      rw [ro_ix2, hrb]
      refine ⟨hix2, ?_⟩
      rw [← Option.some.inj hD]
      exact ⟨Y, Z, p, q, m.rd hV (by omega) rfl rfl (Ext.refl _) (IO.refl _) (.inl ⟨rfl, rfl⟩) (by omega) hcl⟩
    | 8, hE, hG, hD, ho, hni, he, hcl =>
      refine step_R ho (Option.some.inj hG).symm (s1 m (m.vals 7 (by omega) (hcl 7 (by decide)))) ?_
      show opR Tryd.prog [(56, some (.pointer (some (bd.add (ix.toNat * 1)))))] (rdOps[8]!) w.heap _
      rw [ro_ldi2]
      refine ⟨hi, m.ext.cell hhi, ?_⟩
      rw [← Option.some.inj hD]
      exact ⟨Y, Z, p, q, m.rd hV (by omega) rfl rfl (Ext.refl _) (IO.refl _) (.inl ⟨rfl, rfl⟩) (by omega) hcl⟩
    | 9, hE, hG, hD, ho, hni, he, hcl =>
      refine step_R ho (Option.some.inj hG).symm (s2 m (m.vals 4 (by omega) (hcl 4 (by decide))) (m.vals 8 (by omega) (hcl 8 (by decide)))) ?_
      show opR Tryd.prog [(53, some (.int .i64 lo)), (57, some (.int .i64 hi))] (rdOps[9]!) w.heap _
      rw [ro_bld]
      rw [← Option.some.inj hD]
      exact ⟨Y, Z, p, q, m.rd hV (by omega) rfl rfl (Ext.refl _) (IO.refl _) (.inl ⟨rfl, rfl⟩) (by omega) hcl⟩
    | 10, hE, hG, hD, ho, hni, he, hcl =>
      refine step_W ho (Option.some.inj hG).symm (s2 m (m.vals 0 (by omega) (hcl 0 (by decide))) (m.vals 9 (by omega) (hcl 9 (by decide)))) ?_
      show opW Tryd.prog [(49, some (.agg #[rsl s, .int .i64 e])), (58, some (.agg (vsA PT (ptX lo hi)).toArray))] (rdOps[10]!) w.heap _
      rw [ro_call]
      refine call w.heap m.ext (fun v h' => ∀ w', w'.heap = h' → IO w w' → ∃ Y Z p q, RI V C h a0 w0 Y Z p q (l.setIfInBounds 10 true) (a.put (rdOps[10]!).dst v) w') fun Y' Z' h' x' hC w' hw' io => ?_
      rw [← Option.some.inj hD]
      exact ⟨Y', Z', p, q, m.rd hV (by omega) rfl rfl (by rw [hw']; exact x') io (.inr ⟨rfl, hni⟩) (fun _ => hC) hcl⟩
    | 11, hE, hG, hD, ho, hni, he, hcl =>
      refine step_R ho (Option.some.inj hG).symm (s1 m (m.vals 10 (by omega) (hcl 10 (by decide)))) ?_
      show opR Tryd.prog [(59, some (resV Y Z))] (rdOps[11]!) w.heap _
      rw [ro_mv6]
      rw [← Option.some.inj hD]
      exact ⟨Y, Z, p, q, m.rd hV (by omega) rfl rfl (Ext.refl _) (IO.refl _) (.inl ⟨rfl, rfl⟩) (by omega) hcl⟩
    | 12, hE, hG, hD, ho, hni, he, hcl =>
      refine step_R ho (Option.some.inj hG).symm (s1 m (m.vals 11 (by omega) (hcl 11 (by decide)))) ?_
      show opR Tryd.prog [(48, some (resV Y Z))] (rdOps[12]!) w.heap _
      rw [ro_ex0]
      rw [← Option.some.inj hD]
      exact ⟨Y, Z, p, q, m.rd hV (by omega) rfl rfl (Ext.refl _) (IO.refl _) (.inl ⟨rfl, rfl⟩) (by omega) hcl⟩
    | 13, hE, hG, hD, ho, hni, he, hcl =>
      refine step_R ho (Option.some.inj hG).symm (s1 m (m.vals 11 (by omega) (hcl 11 (by decide)))) ?_
      show opR Tryd.prog [(48, some (resV Y Z))] (rdOps[13]!) w.heap _
      rw [ro_ex1]
      rw [← Option.some.inj hD]
      exact ⟨Y, Z, p, q, m.rd hV (by omega) rfl rfl (Ext.refl _) (IO.refl _) (.inl ⟨rfl, rfl⟩) (by omega) hcl⟩
    | 14, hE, hG, hD, ho, hni, he, hcl =>
      refine step_W ho (Option.some.inj hG).symm (sNil m) ?_
      rw [ro_mkp]
      intro w' hw' io
      rw [← Option.some.inj hD]
      exact ⟨Y, Z, _, q, m.mkp rfl hw' io hni⟩
    | 15, hE, hG, hD, ho, hni, he, hcl =>
      refine step_W ho (Option.some.inj hG).symm (sNil m) ?_
      rw [ro_mkq]
      intro w' hw' io
      rw [← Option.some.inj hD]
      exact ⟨Y, Z, p, _, m.mkq rfl hw' io hni⟩
    | 16, hE, hG, hD, ho, hni, he, hcl =>
      obtain ⟨q1, q2, c, q3, q4, q5⟩ := m.bp (hcl 14 (by decide))
      refine step_W ho (Option.some.inj hG).symm (s2 m q1 (m.vals 12 (by omega) (hcl 12 (by decide)))) ?_
      show opW Tryd.prog [(14, some (ptr p 0)), (60, some (.agg (vsA PT Y).toArray))] (rdOps[16]!) w.heap _
      rw [ro_stp]
      refine stores_blk q3 (by rw [q4]; rfl) fun h' b' o' _ _ w' hw' io => ?_
      rw [← Option.some.inj hD]
      exact ⟨Y, Z, p, q, m.stp (by rw [hw']; exact o') (by rw [hw']; exact b') io _ hcl⟩
    | 17, hE, hG, hD, ho, hni, he, hcl =>
      obtain ⟨q1, q2, c, q3, q4, q5⟩ := m.bq (hcl 15 (by decide))
      refine step_W ho (Option.some.inj hG).symm (s2 m q1 (m.vals 13 (by omega) (hcl 13 (by decide)))) ?_
      show opW Tryd.prog [(15, some (ptr q 0)), (61, some (.agg (vsA RT Z).toArray))] (rdOps[17]!) w.heap _
      rw [ro_stq]
      refine stores_blk q3 (by rw [q4]; rfl) fun h' b' o' _ _ w' hw' io => ?_
      rw [← Option.some.inj hD]
      exact ⟨Y, Z, p, q, m.stq (by rw [hw']; exact o') (by rw [hw']; exact b') io _ hcl⟩
    | n + 18, hE, hG, hD, ho, hni, he, hcl => simp at hG
  · rintro l a w ⟨Y, Z, p, q, m⟩ hall
    have ha : ∀ i, i < 18 → Listed l i := fun i hi => hall i (by rw [rd_size]; exact hi)
    obtain ⟨t0, h0, c0, b0, _, f0⟩ := m.bp (ha 14 (by omega))
    obtain ⟨t1, h1, c1, b1, _, f1⟩ := m.bq (ha 15 (by omega))
    have b0' : Blk w.heap p (vsA PT Y).toArray := by rw [← f0 (ha 16 (by omega))]; exact b0
    have b1' : Blk w.heap q (vsA RT Z).toArray := by rw [← f1 (ha 17 (by omega))]; exact b1
    refine hQ a w (some ⟨p, 0, none⟩, some ⟨q, 0, none⟩, ()) m.io (fun t ht => ?_) ⟨by rw [m.dfs, hs.defers], m.tsz, fun t v ht => ?_⟩ (hK p q Y Z _ (m.out (ha 10 (by omega))) b0' b1' (m.ne (ha 14 (by omega)) (ha 15 (by omega))) h0 h1 m.ext)
    · have e : rdOps.toList.filterMap (·.dst) = [49, 50, 51, 52, 53, 54, 55, 56, 57, 58, 59, 48, 60, 61, 14, 15] := by kernel_rfl
      rw [e] at ht
      have hn : ∀ x ∈ [49, 50, 51, 52, 53, 54, 55, 56, 57, 58, 59, 48, 60, 61, 14, 15], t ≠ x := fun x hx e => by
        subst e
        simp only [List.mem_cons, List.not_mem_nil, or_false] at hx
        rcases hx with e | e | e | e | e | e | e | e | e | e | e | e | e | e | e | e <;> subst e <;> simp [hasN] at ht
      have := hn 14 (by simp)
      have := hn 15 (by simp)
      have := hn 48 (by simp)
      have := hn 49 (by simp)
      have := hn 50 (by simp)
      have := hn 51 (by simp)
      have := hn 52 (by simp)
      have := hn 53 (by simp)
      have := hn 54 (by simp)
      have := hn 55 (by simp)
      have := hn 56 (by simp)
      have := hn 57 (by simp)
      have := hn 58 (by simp)
      have := hn 59 (by simp)
      have := hn 60 (by simp)
      have := hn 61 (by simp)
      exact m.keep t (by omega) (by omega)
    · simp only [addL, AFr.get_cons] at ht
      split at ht
      · rename_i e; subst e; cases ht; exact t0
      · split at ht
        · rename_i e; subst e; cases ht; exact t1
        · cases ht
end Go.Proofs.YtjifeclbpgonpaaDoorF
