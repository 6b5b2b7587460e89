/- The fifth part of the layer: a region whose order is open, whose calls and writes stand in one order, comes to what its text's order comes to. No condition. -/
import Derived.Test.YtlkaipmhjgfkpaaDoorK4
import Derived.OrdersIn
namespace Go.Proofs.YtlkaipmhjgfkpaaDoorK
open Go
variable {ds : List Deferred} {lr : Option Nat}
set_option linter.unusedSimpArgs false
set_option linter.unusedVariables false

def edgesOf (o : Oper) : List Nat := (o.after.toList.filter fun e => Region.binds .any e).map (·.on)
def tmpsOf (o : Oper) : List Nat := o.op.operands.toList.filterMap fun | .tmp t => some t | _ => none
def allBelow (p : Nat → Bool) : Nat → Bool
  | 0 => true
  | n + 1 => p n && allBelow p n
theorem allBelow_out {p : Nat → Bool} : ∀ {n : Nat}, allBelow p n = true → ∀ i, i < n → p i = true
  | n + 1, h, i, hi => by
    rw [allBelow, Bool.and_eq_true] at h
    by_cases e : i = n
    · subst e; exact h.1
    · exact allBelow_out h.2 i (by omega)
def opAt (ops : Array Oper) (i : Nat) (p : Oper → Bool) : Bool :=
  match ops[i]? with
  | some o => p o
  | none => false
/-- Of each operation: all that stand ahead of it, as bits. -/
def edgeBits (o : Oper) (acc : List Nat) : Nat := (edgesOf o).foldl (fun s e => s ||| (2 ^ e ||| acc.getD e 0)) 0
def ancL : List Oper → List Nat → List Nat
  | [], acc => acc
  | o :: l, acc => ancL l (acc ++ [edgeBits o acc])
def anc (A : List Nat) (i j : Nat) : Bool := Nat.testBit (A.getD i 0) j
def dstIs (ops : Array Oper) (j t : Nat) : Bool :=
  match gslot ops j with
  | some d => Nat.beq d t
  | none => false
def guardOk (A : List Nat) (i : Nat) (o : Oper) : Bool :=
  match o.guard with
  | none => true
  | some (g, _) => anc A i g
/-- Results are taken behind those who make them; each slot is written once; the operations that do more than read stand in the text's order. -/
def drawOk (P : Program) (n : Nat) (ops : Array Oper) (A : List Nat) : Bool :=
  allBelow (fun i => opAt ops i fun o => (edgesOf o).all (fun e => Nat.blt e i) && inFrame n o.dst && guardOk A i o &&
    (tmpsOf o).all (fun t => allBelow (fun j => !dstIs ops j t || (anc A i j || anc A j i)) ops.size) &&
    (match o.dst with
      | some d => allBelow (fun j => Nat.beq i j || !dstIs ops j d) ops.size
      | none => true) &&
    (isReader P o.op || allBelow (fun j => isReaderAt P ops j || anc A i j) i)) ops.size
where isReaderAt (P : Program) (ops : Array Oper) (j : Nat) : Bool := opAt ops j fun o => isReader P o.op

def Listed (l : Array Bool) (i : Nat) : Prop := l[i]? = some true

theorem mem_ready {ops : Array Oper} {l : Array Bool} (hl : l.size = ops.size) {i : Nat} (h : i ∈ Region.ready .any ops l) :
    i < ops.size ∧ ¬ Listed l i ∧ ∃ o, ops[i]? = some o ∧ ∀ e ∈ edgesOf o, Listed l e := by
  unfold Region.ready at h
  rw [List.mem_filter, List.mem_range, Bool.and_eq_true, Bool.not_eq_true'] at h
  obtain ⟨hi, h1, h2⟩ := h
  have hli : i < l.size := by omega
  refine ⟨hi, fun hL => ?_, ops[i], Array.getElem?_eq_getElem hi, fun e he => ?_⟩
  · unfold Listed at hL
    rw [Array.getD_eq_getD_getElem?, hL] at h1
    cases h1
  · rw [Array.getElem?_eq_getElem hi] at h2
    simp only [Option.map_some, Option.getD_some, Array.all_eq_true'] at h2
    unfold edgesOf at he
    obtain ⟨ed, hed, rfl⟩ := List.mem_map.1 he
    rw [List.mem_filter] at hed
    have h3 := h2 ed (by simpa using hed.1)
    rw [Bool.or_eq_true, Bool.not_eq_true'] at h3
    rcases h3 with h3 | h3
    · rw [hed.2] at h3; cases h3
    · unfold Listed
      rw [Array.getD_eq_getD_getElem?] at h3
      cases hq : l[ed.on]? with
      | none => rw [hq] at h3; cases h3
      | some b => rw [hq] at h3; simp at h3; rw [h3]

theorem ready_of {ops : Array Oper} {l : Array Bool} (hl : l.size = ops.size) {i : Nat} {o : Oper} (ho : ops[i]? = some o) (hn : ¬ Listed l i) (he : ∀ e ∈ edgesOf o, Listed l e) :
    i ∈ Region.ready .any ops l := by
  have hi : i < ops.size := by
    rcases Nat.lt_or_ge i ops.size with h | h
    · exact h
    · rw [Array.getElem?_eq_none h] at ho; cases ho
  have hli : i < l.size := by omega
  unfold Region.ready
  rw [List.mem_filter, List.mem_range, Bool.and_eq_true, Bool.not_eq_true']
  refine ⟨hi, ?_, ?_⟩
  · rw [Array.getD_eq_getD_getElem?, Array.getElem?_eq_getElem hli]
    unfold Listed at hn
    rw [Array.getElem?_eq_getElem hli] at hn
    simpa using hn
  · rw [ho]
    simp only [Option.map_some, Option.getD_some, Array.all_eq_true']
    intro ed hed
    rw [Bool.or_eq_true, Bool.not_eq_true']
    by_cases hb : Region.binds .any ed = true
    · refine .inr ?_
      have := he ed.on (by
        unfold edgesOf
        exact List.mem_map.2 ⟨ed, List.mem_filter.2 ⟨by simpa using hed, hb⟩, rfl⟩)
      unfold Listed at this
      rw [Array.getD_eq_getD_getElem?, this]; rfl
    · exact .inl (by simpa using hb)

/-- Where something is not listed, something is ready. -/
theorem ready_ne {ops : Array Oper} {l : Array Bool} (hl : l.size = ops.size) (hac : ∀ i o, ops[i]? = some o → ∀ e ∈ edgesOf o, e < i) :
    ∀ (i : Nat), i < ops.size → ¬ Listed l i → Region.ready .any ops l ≠ [] := by
  intro i
  induction i using Nat.strongRecOn with
  | _ i ih =>
    intro hi hn
    by_cases hall : ∀ e ∈ edgesOf ops[i], Listed l e
    · exact List.ne_nil_of_mem (ready_of hl (Array.getElem?_eq_getElem hi) hn hall)
    · obtain ⟨e, he, hne⟩ : ∃ e, e ∈ edgesOf ops[i] ∧ ¬ Listed l e := by
        by_cases h : ∃ e, e ∈ edgesOf ops[i] ∧ ¬ Listed l e
        · exact h
        · exact (hall fun e he => Classical.byContradiction fun hn => h ⟨e, he, hn⟩).elim
      have := hac i _ (Array.getElem?_eq_getElem hi) e he
      exact ih e this (by omega) hne

theorem listed_set {l : Array Bool} {i j : Nat} (hi : i < l.size) : Listed (l.setIfInBounds i true) j ↔ i = j ∨ Listed l j := by
  unfold Listed
  rw [Array.getElem?_setIfInBounds]
  by_cases e : i = j
  · subst e; simp [hi]
  · rw [if_neg e]; simp [e]

theorem testBit_fold (acc : List Nat) (j : Nat) : ∀ (es : List Nat) (s : Nat), Nat.testBit (es.foldl (fun s e => s ||| (2 ^ e ||| acc.getD e 0)) s) j = true →
    Nat.testBit s j = true ∨ ∃ e ∈ es, j = e ∨ Nat.testBit (acc.getD e 0) j = true
  | [], s, h => .inl h
  | e :: es, s, h => by
    rcases testBit_fold acc j es _ h with h | ⟨e', he', h⟩
    · rw [Nat.testBit_or, Nat.testBit_or, Bool.or_eq_true, Bool.or_eq_true] at h
      rcases h with h | h | h
      · exact .inl h
      · refine .inr ⟨e, by simp, .inl ?_⟩
        rw [Nat.testBit_two_pow] at h
        exact (of_decide_eq_true h).symm
      · exact .inr ⟨e, by simp, .inr h⟩
    · exact .inr ⟨e', by simp [he'], h⟩

theorem ancL_spec : ∀ (l : List Oper) (acc : List Nat), acc <+: ancL l acc ∧ ∀ i o, l[i]? = some o → (ancL l acc)[acc.length + i]? = some (edgeBits o ((ancL l acc).take (acc.length + i)))
  | [], acc => ⟨List.prefix_refl _, fun i o h => (by cases h)⟩
  | o :: l, acc => by
    obtain ⟨h1, h2⟩ := ancL_spec l (acc ++ [edgeBits o acc])
    refine ⟨List.IsPrefix.trans (List.prefix_append _ _) h1, fun i o' h => ?_⟩
    cases i with
    | zero =>
      simp only [List.getElem?_cons_zero, Option.some.injEq] at h
      subst h
      show (ancL l (acc ++ [edgeBits o acc]))[acc.length + 0]? = _
      obtain ⟨r, hr⟩ := h1
      simp only [ancL, ← hr, Nat.add_zero, List.append_assoc, List.getElem?_append_right (Nat.le_refl _), Nat.sub_self]
      simp
    | succ i =>
      have := h2 i o' (by simpa using h)
      simp only [List.length_append, List.length_singleton] at this
      rw [show acc.length + 1 + i = acc.length + (i + 1) by omega] at this
      exact this

structure Graph (P : Program) (n : Nat) (ops : Array Oper) (A : List Nat) : Prop where
  len : A.length = ops.size
  ac : ∀ i o, ops[i]? = some o → ∀ e ∈ edgesOf o, e < i
  up : ∀ i o j, ops[i]? = some o → anc A i j = true → ∃ e ∈ edgesOf o, j = e ∨ anc A e j = true
  guard : ∀ i o g w, ops[i]? = some o → o.guard = some (g, w) → anc A i g = true
  reads : ∀ i o t j, ops[i]? = some o → t ∈ tmpsOf o → gslot ops j = some t → anc A i j = true ∨ anc A j i = true
  dist : ∀ i j t, j ≠ i → gslot ops j = some t → gslot ops i ≠ some t
  chain : ∀ i o j p, ops[i]? = some o → isReader P o.op = false → ops[j]? = some p → isReader P p.op = false → j < i → anc A i j = true

theorem ancL_length : ∀ (l : List Oper) (acc : List Nat), (ancL l acc).length = acc.length + l.length
  | [], acc => rfl
  | o :: l, acc => by simp only [ancL, ancL_length l]; simp; omega
theorem opAt_out {ops : Array Oper} {i : Nat} {p : Oper → Bool} (h : opAt ops i p = true) {o : Oper} (ho : ops[i]? = some o) : p o = true := by
  unfold opAt at h
  rw [ho] at h; exact h
theorem lt_size {ops : Array Oper} {i : Nat} {o : Oper} (ho : ops[i]? = some o) : i < ops.size := by
  rcases Nat.lt_or_ge i ops.size with h | h
  · exact h
  · rw [Array.getElem?_eq_none h] at ho; cases ho
theorem gslot_lt {ops : Array Oper} {j t : Nat} (h : gslot ops j = some t) : j < ops.size := by
  unfold gslot at h
  obtain ⟨o, ho, _⟩ := Option.bind_eq_some_iff.1 h
  exact lt_size ho

theorem drawOk_out {P : Program} {n : Nat} {ops : Array Oper} (h : drawOk P n ops (ancL ops.toList []) = true) : Graph P n ops (ancL ops.toList []) := by
  have f : ∀ i o, ops[i]? = some o → _ := fun i o ho => opAt_out (allBelow_out h i (lt_size ho)) ho
  simp only [Bool.and_eq_true] at f
  have hdst : ∀ j t, gslot ops j = some t → dstIs ops j t = true := fun j t hg => by unfold dstIs; rw [hg]; simp
  refine ⟨by rw [ancL_length]; simp, fun i o ho e he => ?_, fun i o j ho hj => ?_, fun i o g w ho hg => ?_, fun i o t j ho ht hg => ?_, fun i j t hne hj hi => ?_, fun i o j p ho hr hp hr' hlt => ?_⟩
  · have := List.all_eq_true.1 (f i o ho).1.1.1.1.1 e he
    simpa [Nat.blt_eq] using this
  · have hs := (ancL_spec ops.toList []).2 i o (by rw [Array.getElem?_toList]; exact ho)
    simp only [List.length_nil, Nat.zero_add] at hs
    unfold anc at hj
    rw [List.getD_eq_getElem?_getD, hs] at hj
    simp only [Option.getD_some] at hj
    unfold edgeBits at hj
    rcases testBit_fold _ j _ _ hj with h0 | ⟨e, he, h1⟩
    · simp at h0
    · refine ⟨e, he, h1.imp id fun h1 => ?_⟩
      unfold anc
      have hei : e < i := by
        have := List.all_eq_true.1 (f i o ho).1.1.1.1.1 e he
        simpa [Nat.blt_eq] using this
      rw [List.getD_eq_getElem?_getD, List.getElem?_take_of_lt hei] at h1
      rw [List.getD_eq_getElem?_getD]; exact h1
  · have := (f i o ho).1.1.1.2
    unfold guardOk at this
    rw [hg] at this; exact this
  · have := List.all_eq_true.1 (f i o ho).1.1.2 t ht
    have := allBelow_out this j (gslot_lt hg)
    rw [hdst j t hg] at this
    simpa using this
  · have hi' := hi
    unfold gslot at hi'
    obtain ⟨o, ho, hd⟩ := Option.bind_eq_some_iff.1 hi'
    have := (f i o ho).1.2
    rw [hd] at this
    have := allBelow_out this j (gslot_lt hj)
    rw [hdst j t hj, Bool.or_eq_true] at this
    rcases this with h | h
    · exact hne (Nat.eq_of_beq_eq_true h).symm
    · cases h
  · have := (f i o ho).2
    rw [hr, Bool.false_or] at this
    have := allBelow_out this j hlt
    rw [Bool.or_eq_true] at this
    rcases this with h | h
    · have := opAt_out h hp
      rw [hr'] at this; cases this
    · exact h

theorem execOp_congr_reader {P : Program} {ρ ρ' : Operand → Value} {o : Oper} (hp : isReader P o.op = true) (h : ∀ x ∈ o.op.operands.toList, ρ x = ρ' x) : execOp ρ o = execOp ρ' o := by
  by_cases hpl : plainOp o.op = true
  · exact execOp_congr hpl h
  · obtain ⟨dst, op, type, pos, after, guard⟩ := o
    cases op with
    | load t x => have e0 : ρ x = ρ' x := h x (by simp [Op.operands]); simp only [execOp, e0]
    | nilCheck x => have e0 : ρ x = ρ' x := h x (by simp [Op.operands]); simp only [execOp, e0]
    | pick c x y => have e0 : ρ c = ρ' c := h c (by simp [Op.operands]); have e1 : ρ x = ρ' x := h x (by simp [Op.operands]); have e2 : ρ y = ρ' y := h y (by simp [Op.operands]); simp only [execOp, e0, e1, e2]
    | call c =>
      obtain ⟨callee, args, ts⟩ := c
      cases callee with
      | builtin b => exact (hpl rfl).elim
      | _ => simp [isReader] at hp
    | _ => first
      | exact (hpl rfl).elim
      | (simp [isReader] at hp; done)


theorem put_size (a : Act) (d : Option Tmp) (v : Value) : (a.put d v).tmps.size = a.tmps.size := by
  cases d <;> simp [Act.put]
theorem put_defers (a : Act) (d : Option Tmp) (v : Value) : (a.put d v).defers = a.defers := by
  cases d <;> rfl
theorem put_get (a : Act) (d : Option Tmp) (v : Value) (t : Nat) : (a.put d v).tmps[t]? = if d = some t ∧ t < a.tmps.size then some v else a.tmps[t]? := by
  cases d with
  | none => simp [Act.put]
  | some d =>
    simp only [Act.put, Array.getElem?_setIfInBounds, Option.some.injEq]
    by_cases e : d = t
    · subst e
      by_cases h : d < a.tmps.size
      · simp [h]
      · simp [h]
    · simp [e]

/-- b is a, with the results of the operations in S laid in. -/
structure Cov (ops : Array Oper) (val : Nat → Value) (S : Nat → Prop) (a b : Act) : Prop where
  defers : b.defers = a.defers
  size : b.tmps.size = a.tmps.size
  done : ∀ t j, t < a.tmps.size → S j → gslot ops j = some t → b.tmps[t]? = some (val j)
  rest : ∀ t, (∀ j, S j → gslot ops j ≠ some t) → b.tmps[t]? = a.tmps[t]?

theorem Cov.put {P : Program} {n : Nat} {ops : Array Oper} {A : List Nat} (hG : Graph P n ops A) {val val' : Nat → Value} {S S' : Nat → Prop} {a b : Act} (hc : Cov ops val S a b) {i : Nat} {o : Oper} {u : Value} (ho : ops[i]? = some o)
    (hu : val' i = u) (hv : ∀ j, j ≠ i → S j → val' j = val j) (hS : ∀ j, S' j ↔ (j = i ∨ S j)) : Cov ops val' S' a (b.put o.dst u) := by
  have hgi : gslot ops i = o.dst := by simp [gslot, ho]
  refine ⟨by rw [put_defers, hc.defers], by rw [put_size, hc.size], fun t j ht hSj hg => ?_, fun t hn => ?_⟩
  · rw [put_get, hc.size]
    by_cases e : j = i
    · subst e
      rw [hgi] at hg
      rw [if_pos ⟨hg, ht⟩, hu]
    · have := hG.dist i j t e hg
      rw [hgi] at this
      rw [if_neg (fun h => this h.1), hv j e (((hS j).1 hSj).resolve_left e)]
      exact hc.done t j ht (((hS j).1 hSj).resolve_left e) hg
  · rw [put_get]
    have h1 : o.dst ≠ some t := by rw [← hgi]; exact hn i ((hS i).2 (.inl rfl))
    rw [if_neg (fun h => h1 h.1)]
    exact hc.rest t fun j hSj => hn j ((hS j).2 (.inr hSj))

theorem Cov.mono {ops : Array Oper} {val val' : Nat → Value} {S S' : Nat → Prop} {a b : Act} (hc : Cov ops val S a b) (hv : ∀ j, S j → val' j = val j) (hS : ∀ j, S' j ↔ S j) : Cov ops val' S' a b :=
  ⟨hc.defers, hc.size, fun t j ht hj hg => by rw [hv j ((hS j).1 hj)]; exact hc.done t j ht ((hS j).1 hj) hg, fun t hn => hc.rest t fun j hj => hn j ((hS j).2 hj)⟩

theorem cov_all {ops : Array Oper} {val val' : Nat → Value} {S S' : Nat → Prop} {a b b' : Act} (h : Cov ops val S a b) (h' : Cov ops val' S' a b') (hS : ∀ j, j < ops.size → S j ∧ S' j ∧ val j = val' j) : b = b' := by
  obtain ⟨t1, d1⟩ := b
  obtain ⟨t2, d2⟩ := b'
  have e2 : d1 = d2 := by rw [show d1 = a.defers from h.defers, show d2 = a.defers from h'.defers]
  have e1 : t1 = t2 := by
    apply Array.ext_getElem?
    intro t
    by_cases ht : t < a.tmps.size
    · by_cases hj : ∃ j, gslot ops j = some t
      · obtain ⟨j, hg⟩ := hj
        obtain ⟨s1, s2, s3⟩ := hS j (gslot_lt hg)
        rw [show t1[t]? = _ from h.done t j ht s1 hg, show t2[t]? = _ from h'.done t j ht s2 hg, s3]
      · rw [show t1[t]? = _ from h.rest t fun j _ hg => hj ⟨j, hg⟩, show t2[t]? = _ from h'.rest t fun j _ hg => hj ⟨j, hg⟩]
    · rw [Array.getElem?_eq_none (by rw [show t1.size = _ from h.size]; omega), Array.getElem?_eq_none (by rw [show t2.size = _ from h'.size]; omega)]
  subst e1; subst e2; rfl

theorem cov_eval {P : Program} {n : Nat} {ops : Array Oper} {A : List Nat} (hG : Graph P n ops A) {val val' : Nat → Value} {S S' : Nat → Prop} {a b b' : Act} {i : Nat} {o : Oper} (ho : ops[i]? = some o) (h : Cov ops val S a b) (h' : Cov ops val' S' a b')
    (hS : ∀ e, anc A i e = true → S e ∧ S' e ∧ val e = val' e) (hN : ∀ e, anc A e i = true → ¬ S e ∧ ¬ S' e) : (∀ x ∈ o.op.operands.toList, b.eval x = b'.eval x) ∧ Region.wanted o (yielded ops b.tmps) = Region.wanted o (yielded ops b'.tmps) := by
  have key : ∀ t, (t ∈ tmpsOf o ∨ ∃ g, anc A i g = true ∧ gslot ops g = some t) → b.tmps[t]? = b'.tmps[t]? := by
    intro t ht
    by_cases hts : t < a.tmps.size
    · by_cases hj : ∃ j, gslot ops j = some t
      · obtain ⟨j, hg⟩ := hj
        have hje : anc A i j = true ∨ anc A j i = true := by
          rcases ht with ht | ⟨g, hge, hgg⟩
          · exact hG.reads i o t j ho ht hg
          · by_cases e : j = g
            · subst e; exact .inl hge
            · exact (hG.dist g j t e hg hgg).elim
        rcases hje with hje | hje
        · obtain ⟨s1, s2, s3⟩ := hS j hje
          rw [h.done t j hts s1 hg, h'.done t j hts s2 hg, s3]
        · obtain ⟨n1, n2⟩ := hN j hje
          have only : ∀ k, gslot ops k = some t → k = j := fun k hk => Classical.byContradiction fun e => hG.dist j k t e hk hg
          rw [h.rest t fun k hk hgk => n1 (only k hgk ▸ hk), h'.rest t fun k hk hgk => n2 (only k hgk ▸ hk)]
      · rw [h.rest t fun j _ hg => hj ⟨j, hg⟩, h'.rest t fun j _ hg => hj ⟨j, hg⟩]
    · rw [Array.getElem?_eq_none (by rw [h.size]; omega), Array.getElem?_eq_none (by rw [h'.size]; omega)]
  refine ⟨fun x hx => ?_, ?_⟩
  · cases x with
    | tmp t =>
      have := key t (.inl (by unfold tmpsOf; exact List.mem_filterMap.2 ⟨.tmp t, hx, rfl⟩))
      simp only [Act.eval, Array.getD_eq_getD_getElem?, this]
    | _ => rfl
  · unfold Region.wanted
    cases hg : o.guard with
    | none => rfl
    | some gw =>
      obtain ⟨g, wt⟩ := gw
      have hga := hG.guard i o g wt ho hg
      have : yielded ops b.tmps g = yielded ops b'.tmps g := by
        unfold yielded
        cases hgs : gslot ops g with
        | none => unfold gslot at hgs; simp [hgs]
        | some t =>
          have := key t (.inr ⟨g, hga, hgs⟩)
          unfold gslot at hgs
          simp [hgs, this]
      simp only [this]

/-! The formula of such a region, and what it says of the machine. -/
/-- The heap at which an operation reads: behind the last one that must stand ahead of it. -/
def hpick (A : List Nat) (i : Nat) (h0 : Hp) : List (Nat × Hp) → Hp
  | [] => h0
  | (c, h) :: r => match anc A i c with
    | true => h
    | false => hpick A i h0 r
/-- Is there a load that may stand on either side of operation c? -/
def extN (ops : Array Oper) (A : List Nat) (c : Nat) : Bool :=
  !allBelow (fun i => !(opAt ops i fun o => isLoad o.op) || anc A i c || anc A c i) ops.size
def extc (S : Option (List Nat)) (e : Bool) (h h' : Hp) (X : Prop) : Prop :=
  match e with
  | true => match S with
    | none => Ext h h' ∧ X
    | some S => ExtS S h h' ∧ X
  | false => X
def vcDr (S : Option (List Nat)) (P : Program) (n : Nat) (ops : Array Oper) (A : List Nat) : Nat → List Oper → AFr → Hp → List (Nat × Hp) → Hp → (AFr → Hp → Prop) → Prop
  | _, [], σ, _, _, hc, K => K σ hc
  | i, o :: l, σ, h0, hs, hc, K =>
    let run := fun (σ : AFr) => match inFrame n o.dst with
      | true => match isReader P o.op with
        | true => ldOk S σ o (opR P σ o (hpick A i h0 hs) fun v => vcDr S P n ops A (i + 1) l (σ.put o.dst (some v)) h0 hs hc K)
        | false => opW P σ o hc fun v h' => extc S (extN ops A i) hc h' (vcDr S P n ops A (i + 1) l (σ.put o.dst (some v)) h0 ((i, h') :: hs) h' K)
      | false => False
    match o.guard with
    | none => run σ
    | some (j, want) => gd ops j want σ run fun σ => vcDr S P n ops A (i + 1) l (σ.put o.dst (skipV n o.dst)) h0 hs hc K

/-- What one reading operation does, at whatever heap it may meet. -/
def RunF (S : Option (List Nat)) (P : Program) (ops : Array Oper) (A : List Nat) (h0 : Hp) (hs : List (Nat × Hp)) (i : Nat) (o : Oper) (a : Act) (u : Value) : Prop :=
  (Region.wanted o (yielded ops a.tmps) = true ∧ isReader P o.op = true ∧ ∀ w, (isLoad o.op = true → ExtO S (hpick A i h0 hs) w.heap) → (execOp a.eval o).run P w = .ok (.value u) w) ∨
  (Region.wanted o (yielded ops a.tmps) = false ∧ u = undef)
def TT (S : Option (List Nat)) (P : Program) (ops : Array Oper) (A : List Nat) (Q : Act → Hp → Prop) : Nat → List Oper → Hp → List (Nat × Hp) → Act → Hp → Prop
  | _, [], _, _, a, hc => Q a hc
  | i, o :: l, h0, hs, a, hc =>
    (∃ u, RunF S P ops A h0 hs i o a u ∧ TT S P ops A Q (i + 1) l h0 hs (a.put o.dst u) hc) ∨
    (Region.wanted o (yielded ops a.tmps) = true ∧ isReader P o.op = false ∧
      Goes P a o hc fun v h' => (extN ops A i = true → ExtO S hc h') ∧ TT S P ops A Q (i + 1) l h0 ((i, h') :: hs) (a.put o.dst v) h')

theorem Goes.mono {P : Program} {a : Act} {o : Oper} {h : Hp} {K K' : Value → Hp → Prop} (hg : Goes P a o h K) (hk : ∀ v h', K v h' → K' v h') : Goes P a o h K' := by
  intro w hw
  rcases hg w hw with ⟨v, w', hr, io, h'⟩ | ⟨f, args, hr, hc⟩ | ⟨l, fn, tmps, as, bd, hr, hc⟩
  · exact .inl ⟨v, w', hr, io, hk _ _ h'⟩
  · exact .inr (.inl ⟨f, args, hr, hc.mono hk⟩)
  · exact .inr (.inr ⟨l, fn, tmps, as, bd, hr, hc.mono fun e w' ⟨v, he, io, hK⟩ => ⟨v, he, io, hk _ _ hK⟩⟩)

theorem vcDr_TT {S : Option (List Nat)} {P : Program} {n : Nat} {ops : Array Oper} {A : List Nat} {K : AFr → Hp → Prop} {σ0 : AFr} : ∀ (l : List Oper) (i : Nat), (∀ o ∈ l, o ∈ ops.toList) → ∀ {σ : AFr} {a : Act} {h0 hc : Hp} {hs : List (Nat × Hp)}, Says ds σ n a → SameO ops σ0 σ →
    vcDr S P n ops A i l σ h0 hs hc K → TT S P ops A (fun a h => ∃ σ', Says ds σ' n a ∧ SameO ops σ0 σ' ∧ K σ' h) i l h0 hs a hc
  | [], i, _, σ, a, h0, hc, hs, hsa, hm, hk => ⟨σ, hsa, hm, hk⟩
  | o :: l, i, hl, σ, a, h0, hc, hs, hsa, hm, hk => by
    have hmem := hl o (by simp)
    have hll : ∀ o ∈ l, o ∈ ops.toList := fun o ho => hl o (by simp [ho])
    have yes : ∀ {σ1}, Says ds σ1 n a → SameO ops σ0 σ1 → Region.wanted o (yielded ops a.tmps) = true → (match inFrame n o.dst with
      | true => match isReader P o.op with
        | true => ldOk S σ1 o (opR P σ1 o (hpick A i h0 hs) fun v => vcDr S P n ops A (i + 1) l (σ1.put o.dst (some v)) h0 hs hc K)
        | false => opW P σ1 o hc fun v h' => extc S (extN ops A i) hc h' (vcDr S P n ops A (i + 1) l (σ1.put o.dst (some v)) h0 ((i, h') :: hs) h' K)
      | false => False) → TT S P ops A (fun a h => ∃ σ', Says ds σ' n a ∧ SameO ops σ0 σ' ∧ K σ' h) i (o :: l) h0 hs a hc := by
      intro σ1 hs1 hm1 hw hk
      split at hk
      · rename_i hd
        split at hk
        · rename_i hr
          obtain ⟨u, hK, hrun⟩ := opR_outO hs1 hk
          exact .inl ⟨u, .inl ⟨hw, hr, hrun⟩, vcDr_TT l (i + 1) hll (hs1.put hd u) (hm1.trans (sameO_put hmem)) hK⟩
        · rename_i hr
          refine .inr ⟨hw, hr, (opW_out hs1 hk).mono fun v h' hK => ?_⟩
          unfold extc at hK
          split at hK
          · split at hK
            · exact ⟨fun _ => hK.1, vcDr_TT l (i + 1) hll (hs1.put hd v) (hm1.trans (sameO_put hmem)) hK.2⟩
            · exact ⟨fun _ => hK.1, vcDr_TT l (i + 1) hll (hs1.put hd v) (hm1.trans (sameO_put hmem)) hK.2⟩
          · rename_i he
            exact ⟨fun h => (by rw [he] at h; cases h), vcDr_TT l (i + 1) hll (hs1.put hd v) (hm1.trans (sameO_put hmem)) hK⟩
      · exact hk.elim
    simp only [vcDr] at hk
    split at hk
    · rename_i hg
      exact yes hsa hm (by simp [Region.wanted, hg]) hk
    · rename_i j want hg
      rcases gd_out hsa hk with ⟨σ1, hs1, hm1, hy, hk⟩ | ⟨σ1, hs1, hm1, hy, hk⟩
      · exact yes hs1 (hm.trans hm1) (by simp [Region.wanted, hg, hy]) hk
      · exact .inl ⟨undef, .inr ⟨by simp only [Region.wanted, hg, hy], rfl⟩, vcDr_TT l (i + 1) hll (hs1.skip o.dst) ((hm.trans hm1).trans (sameO_put hmem)) hk⟩
end Go.Proofs.YtlkaipmhjgfkpaaDoorK
