/- The third part of the layer: that the operations that only read are told rightly. No condition. -/
import Derived.Test.YtlkaipmhjgfkpaaDoorK2
namespace Go.Proofs.YtlkaipmhjgfkpaaDoorK
open Go
set_option linter.unusedSimpArgs false
set_option linter.unusedVariables false
variable {ds : List Deferred} {lr : Option Nat}

def isLoad : Op → Bool
  | .load .. => true
  | _ => false
/-- An operation that reads: its value, whatever else the world holds. -/
def Tells (P : Program) (a : Act) (o : Oper) (h : Hp) (K : Value → Prop) : Prop :=
  ∃ v, K v ∧ ∀ w, (isLoad o.op = true → Ext h w.heap) → (execOp a.eval o).run P w = .ok (.value v) w

theorem szK_out {P : Program} {e : TypeId} {K : Nat → Prop} (h : szK P e K) : ∃ i, P.info? e = some i ∧ K i.size := by
  unfold szK at h
  split at h
  · rename_i i e; exact ⟨i, e, h⟩
  · exact h.elim

theorem addr_zero (a : Addr) : a.add 0 = a := by unfold Addr.add; rw [if_pos rfl]
theorem ldH_out {P : Program} {t : TypeId} {h : Hp} {a : Addr} {K : Value → Prop} (hk : ldH P t h a K) :
    ∃ v, K v ∧ ∀ w, (∀ i v, hcell h (a.add i) = some v → hcell w.heap (a.add i) = some v) → (Instr.loadAt t (.pointer (some a))).run P w = .ok v w := by
  unfold ldH at hk
  split at hk
  · exact hk.elim
  · rename_i d s hd e
    obtain ⟨x, hx, hK⟩ := hk
    refine ⟨_, hK, fun w hw => ?_⟩
    have hc : w.cell? a = some (s.v x) := by rw [cell_eq]; have := hw 0 (s.v x); rw [addr_zero] at this; exact this hx
    simp [Instr.loadAt, Instr.sureAddr, loadVar, shOf_at e w ⟨d, hd⟩, hc]
  · rename_i d l hd e
    split at hk
    · rename_i i hi
      split at hk
      · rename_i hb
        have hb := Nat.eq_of_beq_eq_true hb
        obtain ⟨x, hK, hr⟩ := ldAs_out (P := P) hk
        refine ⟨_, hK, fun w hw => ?_⟩
        have := hr w hw #[]
        simp only [← hb] at this
        simp [Instr.loadAt, Instr.sureAddr, loadVar, shOf_agg e w, run_sizeOf hi, loadCells, this]
      · exact hk.elim
    · exact hk.elim

theorem idxS_out {a : Option Addr} {len : Nat} {i : Int} {size : Nat} {K : Addr → Prop} (h : idxS a len i size K) :
    ∃ p, a = some p ∧ (0 ≤ i ∧ i < (len : Int)) ∧ K (p.add (i.toNat * size)) := by
  obtain ⟨hb, h⟩ := h
  obtain ⟨p, rfl, h⟩ := someA_of h
  exact ⟨p, rfl, hb, h⟩

theorem sliceBounds_run {P : Program} {isSlice : Bool} {len cap : Nat} {lo hi : Option Value} {lo' hi' : Option Int} 
    (hl : lo = none ∧ lo' = none ∨ ∃ k n, lo = some (.int k n) ∧ lo' = some n) (hh : hi = none ∧ hi' = none ∨ ∃ k n, hi = some (.int k n) ∧ hi' = some n)
    (h1 : 0 ≤ hi'.getD len ∧ hi'.getD len ≤ (cap : Int)) (h2 : 0 ≤ lo'.getD 0 ∧ lo'.getD 0 ≤ hi'.getD len) (w : World) :
    (Instr.sliceBounds isSlice len cap lo hi none).run P w = .ok ((lo'.getD 0).toNat, (hi'.getD len).toNat, cap) w := by
  rcases hl with ⟨rfl, rfl⟩ | ⟨k, n, rfl, rfl⟩ <;> rcases hh with ⟨rfl, rfl⟩ | ⟨k', n', rfl, rfl⟩ <;>
    simp only [Option.getD_none, Option.getD_some] at h1 h2 ⊢
  · simp [Instr.sliceBounds]
  · have : (0 ≤ n' ∧ n' ≤ (cap : Int)) := h1
    simp [Instr.sliceBounds, Instr.sliceBound, asIntOf, this]
  · have : (0 ≤ n ∧ n ≤ (len : Int)) := h2
    simp [Instr.sliceBounds, Instr.sliceBound, asIntOf, this]
  · have e1 : (0 ≤ n' ∧ n' ≤ (cap : Int)) := h1
    have e2 : (0 ≤ n ∧ n ≤ (n'.toNat : Int)) := ⟨h2.1, by rw [Int.toNat_of_nonneg h1.1]; exact h2.2⟩
    simp only [Instr.sliceBounds, Instr.sliceBound, asIntOf, Sem.run_bind, Sem.run_pure, Result.andThen_ok, if_pos e1, if_pos e2, Option.isSome_none, Bool.false_eq_true, if_false]

theorem bounds3_run {P : Program} {isSlice : Bool} {len cap : Nat} {lo : Option Value} {lo' : Option Int} {hk mk : IntKind} {hi mx : Int}
    (hl : lo = none ∧ lo' = none ∨ ∃ k n, lo = some (.int k n) ∧ lo' = some n) (h1 : 0 ≤ mx ∧ mx ≤ (cap : Int)) (h2 : 0 ≤ hi ∧ hi ≤ mx) (h3 : 0 ≤ lo'.getD 0 ∧ lo'.getD 0 ≤ hi) (w : World) :
    (Instr.sliceBounds isSlice len cap lo (some (.int hk hi)) (some (.int mk mx))).run P w = .ok ((lo'.getD 0).toNat, hi.toNat, mx.toNat) w := by
  have e2 : (0 ≤ hi ∧ hi ≤ (mx.toNat : Int)) := ⟨h2.1, by rw [Int.toNat_of_nonneg h1.1]; exact h2.2⟩
  rcases hl with ⟨rfl, rfl⟩ | ⟨k, n, rfl, rfl⟩ <;> simp only [Option.getD_none, Option.getD_some] at h3 ⊢
  · simp only [Instr.sliceBounds, Instr.sliceBound, asIntOf, Sem.run_bind, Sem.run_pure, Result.andThen_ok, if_pos h1, if_pos e2]; rfl
  · have e3 : (0 ≤ n ∧ n ≤ (hi.toNat : Int)) := ⟨h3.1, by rw [Int.toNat_of_nonneg h2.1]; exact h3.2⟩
    simp only [Instr.sliceBounds, Instr.sliceBound, asIntOf, Sem.run_bind, Sem.run_pure, Result.andThen_ok, if_pos h1, if_pos e2, if_pos e3]

theorem evI_out {σ : AFr} {n : Nat} {a : Act} (hs : Says ds σ n a) {x : Option Operand} {r : Option Int} (h : evI σ x = some r) :
    (x.map a.eval = none ∧ r = none) ∨ ∃ k n, x.map a.eval = some (.int k n) ∧ r = some n := by
  unfold evI at h
  split at h
  · cases h; exact .inl ⟨rfl, rfl⟩
  · rename_i y
    split at h
    · rename_i k n e
      cases h
      refine .inr ⟨k, n, ?_, rfl⟩
      simp only [Option.map_some, hs.eval e]
    · cases h

theorem ofValue {P : Program} {a : Act} {o : Oper} {h : Hp} {K : Value → Prop} {s : Sem Value} {v : Value} (hK : K v)
    (he : execOp a.eval o = (do pure (Next.value (← s)))) (hr : ∀ w, (isLoad o.op = true → Ext h w.heap) → s.run P w = .ok v w) : Tells P a o h K :=
  ⟨v, hK, fun w hw => by rw [he]; simp [hr w hw]⟩
theorem genR_tells {P : Program} {σ : AFr} {n : Nat} {a : Act} {o : Oper} {h : Hp} {K : Value → Prop} (hs : Says ds σ n a) (hk : genR P σ o K) : Tells P a o h K := by
  obtain ⟨v, hK, hr⟩ := genR_out hs hk
  exact ⟨v, hK, fun w _ => hr w⟩

theorem run_pickBool {a : Act} {c x y : Operand} {t : Bool} (P : Program) (w : World) (hc : a.eval c = .bool t) :
    (do pure (Next.value (if ← asBool (a.eval c) then a.eval x else a.eval y)) : Sem Next).run P w = .ok (.value (if t then a.eval x else a.eval y)) w := by
  simp [hc, asBool]

theorem tells_id {P : Program} {a : Act} {o : Oper} {h : Hp} {K : Value → Prop} {v : Value} (hK : K v) (he : execOp a.eval o = pure (Next.value v)) : Tells P a o h K :=
  ⟨v, hK, fun w _ => by rw [he]; rfl⟩

theorem nilChk_out {v : Value} {K : Value → Prop} (h : nilChk v K) : K v ∧ ((∃ a, v = .pointer (some a)) ∨ (∃ f a b, v = .func (.func f) a b) ∨ ∃ t x, v = .iface t x) := by
  unfold nilChk at h
  split at h
  · obtain ⟨a, rfl, h⟩ := someA_of h; exact ⟨h, .inl ⟨a, rfl⟩⟩
  · exact ⟨h, .inr (.inl ⟨_, _, _, rfl⟩)⟩
  · exact ⟨h, .inr (.inr ⟨_, _, rfl⟩)⟩
  · exact h.elim

theorem run_equalIn_ptr {P : Program} {t e : TypeId} (ht : P.underlying t = some (.pointer e)) (d : Nat) (p : Option Addr) (w : World) :
    (Op.equalIn (d + 1) t (.pointer p) (.pointer none)).run P w = .ok p.isNone w := by
  cases p <;> simp [Op.equalIn, run_underlying ht]
theorem run_equalIn_ptrs {P : Program} {t e : TypeId} {inf : TypeInfo} (ht : P.underlying t = some (.pointer e)) (hi : P.info? e = some inf) (hz : inf.size ≠ 0) (d : Nat) {p q : Option Addr} {K : Bool → Prop} (hk : eqPA p q K) :
    ∃ b, K b ∧ ∀ w, (Op.equalIn (d + 1) t (.pointer p) (.pointer q)).run P w = .ok b w := by
  unfold eqPA at hk
  split at hk
  · exact ⟨_, hk, fun w => by cases q <;> simp [Op.equalIn, run_underlying ht]⟩
  · exact ⟨_, hk, fun w => by simp [Op.equalIn, run_underlying ht]⟩
  · rename_i a b
    obtain ⟨hb, hK⟩ := hk
    exact ⟨_, hK, fun w => by simp [Op.equalIn, run_underlying ht, run_sizeOf hi, hz, sameAddr, hb]⟩
theorem run_equalIn_fun {P : Program} {t : TypeId} {xs ys : Array TypeId} {vd : Bool} (ht : P.underlying t = some (.func xs ys vd)) (d : Nat) {v : Value} {K : Bool → Prop} (h : funNil v K) :
    ∃ b, K b ∧ ∀ w, (Op.equalIn (d + 1) t v .nilFunc).run P w = .ok b w := by
  unfold funNil at h
  split at h
  · exact ⟨true, h, fun w => by simp [Op.equalIn, run_underlying ht]⟩
  · exact ⟨false, h, fun w => by simp [Op.equalIn, run_underlying ht]⟩
  · exact h.elim
theorem run_equalIn_slice {P : Program} {t e : TypeId} (ht : P.underlying t = some (.slice e)) (d : Nat) (p : Option Addr) (l c l' c' : Nat) (w : World) :
    (Op.equalIn (d + 1) t (.slice p l c) (.slice none l' c')).run P w = .ok p.isNone w := by
  cases p <;> simp [Op.equalIn, run_underlying ht]
theorem run_equalIn_ifc {P : Program} {t : TypeId} {ms : Array (String × TypeId)} (ht : P.underlying t = some (.interface ms)) (d : Nat) {v : Value} {K : Bool → Prop} (h : ifcNil v K) :
    ∃ b, K b ∧ ∀ w, (Op.equalIn (d + 1) t v .nilIface).run P w = .ok b w := by
  unfold ifcNil at h
  split at h
  · exact ⟨true, h, fun w => by simp [Op.equalIn, run_underlying ht]⟩
  · exact ⟨false, h, fun w => by simp [Op.equalIn, run_underlying ht]⟩
  · exact h.elim

theorem maxDepth_succ : Op.maxDepth = 9999 + 1 := rfl

theorem optK_out {o : Option Value} {K : Value → Prop} (h : optK o K) : ∃ v, o = some v ∧ K v := by
  cases o with
  | none => exact h.elim
  | some v => exact ⟨v, rfl, h⟩
theorem pickK_out {t : Bool} {x y : Option Value} {K : Value → Prop} (h : pickK t x y K) : ∃ v, (if t then x else y) = some v ∧ K v := by
  unfold pickK at h
  split at h
  · cases t <;> exact ⟨_, rfl, h⟩
  · rcases cnd_of h with ⟨rfl, h⟩ | ⟨rfl, h⟩
    · exact optK_out h
    · exact optK_out h

theorem eqV1_out {P : Program} {t : TypeId} {v u : Value} {K : Bool → Prop} (h : eqV1 (P.underlying t) v u K) :
    (∃ b, K b ∧ ∀ d w, (Op.equalIn (d + 1) t v u).run P w = .ok b w) ∧ ∀ w, (isAgg t).run P w = .ok false w := by
  unfold eqV1 at h
  split at h
  · rename_i k0 k a k' b ht
    refine ⟨?_, fun w => by simp [isAgg, run_underlying ht]⟩
    have : k = k' ∧ K (a == b) := by
      split at h <;> first | exact ⟨rfl, h⟩ | exact h.elim
    obtain ⟨rfl, h2⟩ := this
    exact ⟨_, h2, fun d w => by simp [Op.equalIn, run_underlying ht]⟩
  · rename_i a b ht
    exact ⟨⟨_, h, fun d w => by simp [Op.equalIn, run_underlying ht]⟩, fun w => by simp [isAgg, run_underlying ht]⟩
  · rename_i a b ht
    exact ⟨⟨_, h, fun d w => by simp [Op.equalIn, run_underlying ht]⟩, fun w => by simp [isAgg, run_underlying ht]⟩
  · exact h.elim
def eqBody (d : Nat) (xs ys : Array Value) (f : Field) (_ : Option Bool × Unit) : Sem (ForInStep (Option Bool × Unit)) :=
  if f.name ≠ "_" then do
    let a ← part f.type xs f.offset
    let b ← part f.type ys f.offset
    let r ← Op.equalIn d f.type a b
    if (!r) = true then pure (ForInStep.done (some false, ())) else pure (ForInStep.yield (none, ()))
  else pure (ForInStep.yield (none, ()))
theorem eqF_out {P : Program} {xs ys : Array Value} : ∀ {fs : List Field} {i : Nat} {vs us : List Value} {K : Bool → Prop}, xs.toList.drop i = vs → ys.toList.drop i = us → eqF P fs i vs us K →
    ∃ b, K b ∧ ∀ d w, (forIn fs ((none, ()) : Option Bool × Unit) (eqBody (d + 1) xs ys)).run P w = .ok ((if b then none else some false), ()) w
  | [], i, [], [], K, _, _, h => ⟨true, h, fun d w => by simp⟩
  | f :: fs, i, v :: vs, u :: us, K, hv, hu, h => by
    simp only [eqF] at h
    split at h
    · rename_i hc
      rw [Bool.and_eq_true] at hc
      have ho := Nat.eq_of_beq_eq_true hc.1
      have hn : f.name ≠ "_" := by simpa using hc.2
      obtain ⟨⟨b, h, hr⟩, hag⟩ := eqV1_out h
      have hd : ∀ {l : List Value} {w : Value} {ws : List Value}, l.drop i = w :: ws → l[i]? = some w ∧ l.drop (i + 1) = ws := by
        intro l w ws e
        constructor
        · have := congrArg List.head? e; simpa [List.head?_drop] using this
        · rw [← List.tail_drop, e]; rfl
      obtain ⟨hx, hv'⟩ := hd hv
      obtain ⟨hy, hu'⟩ := hd hu
      rw [Array.getElem?_toList] at hx hy
      obtain ⟨c, hK, hc2⟩ := eqF_out hv' hu' h
      refine ⟨b && c, hK, fun d w => ?_⟩
      have hp : ∀ (zs : Array Value) z, zs[i]? = some z → (part f.type zs f.offset).run P w = .ok z w := fun zs z hz => by simp [part, hag, ho, hz]
      rw [List.forIn_cons]
      simp only [Sem.run_bind]
      have hb : (eqBody (d + 1) xs ys f (none, ())).run P w = .ok (if b then ForInStep.yield (none, ()) else ForInStep.done (some false, ())) w := by
        unfold eqBody
        rw [if_pos hn]
        simp only [Sem.run_bind, hp xs _ hx, hp ys _ hy, Result.andThen_ok, hr]
        cases b <;> rfl
      rw [hb]
      simp only [Result.andThen_ok]
      cases b with
      | true => simp only [Bool.true_and]; exact hc2 d w
      | false => rfl
    · exact h.elim
theorem eqS_out {P : Program} {t : TypeId} {fs : Array Field} (ht : P.underlying t = some (.struct fs)) {xs ys : Array Value} {K : Bool → Prop} (h : eqS P t fs xs ys K) :
    ∃ b, K b ∧ P.eqGuardType P.depth t = false ∧ ∀ w, (Op.equal t (.agg xs) (.agg ys)).run P w = .ok b w := by
  unfold eqS at h
  split at h
  · rename_i hc
    simp only [Bool.and_eq_true, Bool.not_eq_true'] at hc
    obtain ⟨b, hK, hr⟩ := eqF_out (xs := xs) (ys := ys) (by simp) (by simp) h
    refine ⟨b, hK, hc.2, fun w => ?_⟩
    have hr := hr 9998 w
    unfold Op.equal
    rw [maxDepth_succ]
    unfold Op.equalIn
    simp only [Sem.run_bind, run_underlying ht, Result.andThen_ok]
    simp only [program, Sem.run, Result.andThen_ok, hc.1, Bool.false_eq_true, if_false]
    have e : (forIn fs ((none, ()) : Option Bool × Unit) (eqBody 9999 xs ys)).run P w = .ok ((if b then none else some false), ()) w := by rw [← Array.forIn_toList]; exact hr
    unfold eqBody at e
    rw [Sem.run_bind, e]
    cases b <;> rfl
  · exact h.elim

/-! Structs and arrays out of parts. -/
theorem evP_out {σ : AFr} {n : Nat} {a : Act} (hs : Says ds σ n a) : ∀ {l : List (Nat × Operand)} {vs : List (Nat × Value)}, evP σ l = some vs → l.map (fun p => (p.1, a.eval p.2)) = vs
  | [], vs, h => by cases h; rfl
  | (i, x) :: l, vs, h => by
    simp only [evP] at h
    split at h
    · rename_i v r hv hr
      cases h
      simp only [List.map_cons, hs.eval hv, evP_out hs hr]
    · cases h
theorem oneA_out {v : Value} {K : Value → Prop} (h : oneA v K) : ∃ c, K c ∧ v.cells = #[c] := by
  cases v with
  | agg cs =>
    simp only [oneA] at h
    split at h
    · rename_i c hc
      exact ⟨c, h, by apply Array.ext'; exact hc⟩
    · exact h.elim
  | tuple cs => exact h.elim
  | _ => exact ⟨_, h, rfl⟩
theorem fold_setL (cs : List Value) : ∀ (cells : Array Value) (o k : Nat), (cs.zipIdx k).foldl (fun (a : Array Value) (p : Value × Nat) => a.setIfInBounds (o + p.2) p.1) cells = (setL cells.toList (o + k) cs).toArray := by
  induction cs with
  | nil => intro cells o k; simp [setL]
  | cons c cs ih =>
    intro cells o k
    simp only [List.zipIdx_cons, List.foldl_cons, setL]
    rw [ih]
    congr 1
    rw [Array.toList_setIfInBounds, show o + (k + 1) = o + k + 1 by omega]
theorem bld_out {place : Nat → Option (Nat × Nat)} : ∀ {ps : List (Nat × Value)} {cells : List Value} {K : List Value → Prop}, bld place cells ps K → ∃ cs : List Value, K cs ∧ Instr.fill place cells.toArray ps = some cs.toArray
  | [], cells, K, h => ⟨cells, h, rfl⟩
  | (i, v) :: ps, cells, K, h => by
    simp only [bld] at h
    split at h
    · rename_i off hp
      have key : ∀ c, v.cells = #[c] → (match Nat.blt off cells.length with | true => bld place (cells.set off c) ps K | false => False) → ∃ cs : List Value, K cs ∧ Instr.fill place cells.toArray ((i, v) :: ps) = some cs.toArray := by
        intro c hc h
        split at h
        · rename_i hb
          have hb : off < cells.length := by
            have : off + 1 ≤ cells.length := by simpa [Nat.blt] using hb
            omega
          obtain ⟨cs, hK, hf⟩ := bld_out h
          refine ⟨cs, hK, ?_⟩
          simp only [Instr.fill, hp, hc]
          rw [if_neg (by simp; omega)]
          have : (#[c].zipIdx.foldl (fun cs (x : Value × Nat) => cs.setIfInBounds (off + x.2) x.1) cells.toArray) = (cells.set off c).toArray := by simp
          rw [this]; exact hf
        · exact h.elim
      obtain ⟨c, h, hc⟩ := oneA_out h
      exact key c hc h
    · rename_i off sz _ hp
      split at h
      · rename_i cs
        split at h
        · rename_i hb
          rw [Bool.and_eq_true] at hb
          have h1 := Nat.eq_of_beq_eq_true hb.1
          have h2 := Nat.le_of_ble_eq_true hb.2
          obtain ⟨cs', hK, hf⟩ := bld_out h
          refine ⟨cs', hK, ?_⟩
          simp only [Instr.fill, hp]
          have hcc : (Value.agg cs).cells = cs := rfl
          rw [if_neg (by rw [hcc]; simp; omega)]
          show Instr.fill place (cs.zipIdx.foldl (fun cs (x : Value × Nat) => cs.setIfInBounds (off + x.2) x.1) cells.toArray) ps = some cs'.toArray
          have : (cs.zipIdx.foldl (fun cs (x : Value × Nat) => cs.setIfInBounds (off + x.2) x.1) cells.toArray) = (setL cells off cs.toList).toArray := by
            have := fold_setL cs.toList cells.toArray off 0
            simp only [Nat.add_zero] at this
            rw [← this, ← Array.foldl_toList, Array.toList_zipIdx]
          rw [this]; exact hf
        · exact h.elim
      · exact h.elim
    · exact h.elim
theorem mapM_run {P : Program} {α β : Type} {f : α → Sem β} {g : α → β} {w : World} : ∀ {l : List α}, (∀ x ∈ l, (f x).run P w = .ok (g x) w) → (l.mapM f).run P w = .ok (l.map g) w
  | [], _ => by simp
  | x :: l, h => by
    rw [List.mapM_cons]
    simp only [Sem.run_bind, h x (by simp), Result.andThen_ok, mapM_run (l := l) fun y hy => h y (by simp [hy]), Sem.run_pure, List.map_cons]
theorem build_run {P : Program} {t : TypeId} {i : TypeInfo} {z : Value} {ps : List (Nat × Value)} {K : Value → Prop} (hi : P.info? t = some i) (hz : i.zero = some z)
    (hu : (∃ fs : Array Field, P.underlying t = some (.struct fs) ∧ fs.toList.all (fun f => (P.info? f.type).isSome) = true) ∨ ∃ m e, P.underlying t = some (.array m e) ∧ (P.info? e).isSome = true)
    (h : bld (placeOf P t) z.cells.toList ps fun cs => K (.agg cs.toArray)) : ∃ v, K v ∧ ∀ w, (Instr.build t ps.toArray).run P w = .ok v w := by
  obtain ⟨cs, hK, hf⟩ := bld_out h
  refine ⟨_, hK, fun w => ?_⟩
  have hze : (zeroValue t).run P w = .ok z w := by simp [zeroValue, typeInfo, hi, hz]
  unfold Instr.build
  rcases hu with ⟨fs, hu, hall⟩ | ⟨m, e, hu, hsome⟩
  · have hm : (fs.mapM fun (f : Field) => (do pure (f.offset, ← sizeOf f.type) : Sem (Nat × Nat))).run P w = .ok (fs.map fun f => (f.offset, ((P.info? f.type).map (·.size)).getD 0)) w := by
      rw [Array.mapM_eq_mapM_toList]
      simp only [Sem.run_map]
      rw [mapM_run (g := fun (f : Field) => (f.offset, ((P.info? f.type).map (·.size)).getD 0)) fun f hf => ?_]
      · simp only [Result.andThen_ok, Sem.run_pure]
        congr 1
        apply Array.ext'
        simp
      · obtain ⟨j, hj⟩ := Option.isSome_iff_exists.1 (List.all_eq_true.1 hall f hf)
        simp only [Sem.run_bind, run_sizeOf hj, Result.andThen_ok, Sem.run_pure, hj]; rfl
    have hpl : (fun x => (fs.map fun f => (f.offset, ((P.info? f.type).map (·.size)).getD 0))[x]?) = placeOf P t := by
      funext x
      unfold placeOf
      rw [hu]
      simp only [Array.getElem?_map]
      cases hx : fs[x]? with
      | none => rfl
      | some f =>
        obtain ⟨j, hj⟩ := Option.isSome_iff_exists.1 (List.all_eq_true.1 hall f (Array.mem_toList_iff.2 (Array.mem_of_getElem? hx)))
        simp [hj]
    simp only [Sem.run_bind, hze, Result.andThen_ok, run_underlying hu, hm, hpl]
    rw [hf]; rfl
  · obtain ⟨j, hj⟩ := Option.isSome_iff_exists.1 hsome
    have hpl : (fun x => some (x * j.size, j.size)) = placeOf P t := by
      funext x
      unfold placeOf
      rw [hu]; simp [hj]
    simp only [Sem.run_bind, hze, Result.andThen_ok, run_underlying hu, run_sizeOf hj, hpl]
    rw [hf]; rfl

theorem opR_out {P : Program} {σ : AFr} {n : Nat} {a : Act} {o : Oper} {h : Hp} {K : Value → Prop} (hs : Says ds σ n a) (hk : opR P σ o h K) : Tells P a o h K := by
  unfold opR at hk
  split at hk
  · -- load
    rename_i t x e
    replace hk := (wv_out hs hk).2
    split at hk
    · rename_i p hp
      obtain ⟨ad, rfl, hk⟩ := someA_of hk
      obtain ⟨v, hK, hr⟩ := ldH_out hk
      exact ofValue hK (by simp only [execOp, e, hp]) fun w hw => hr w fun i v hv => (hw (by rw [e]; rfl)).cell hv
    · exact hk.elim
  · -- nilCheck
    rename_i x e
    replace hk := (wv_out hs hk).2
    obtain ⟨hK, ⟨p, hv⟩ | ⟨f, fs, cs, hv⟩ | ⟨t, y, hv⟩⟩ := nilChk_out hk
    all_goals exact tells_id hK (by simp only [execOp, e, hv])
  · -- pick
    rename_i c x y e
    replace hk := (wv_out hs hk).2
    split at hk
    · rename_i t ht
      obtain ⟨v, hv, hK⟩ := pickK_out hk
      have key : (if t then a.eval x else a.eval y) = v := by
        cases t
        · exact hs.eval hv
        · exact hs.eval hv
      exact ⟨v, hK, fun w _ => by simp only [execOp, e]; rw [← key]; exact run_pickBool P w ht⟩
    · exact hk.elim
  · -- indexAddr
    rename_i t x i e
    replace hk := (wv_out hs hk).2
    replace hk := (wv_out hs hk).2
    split at hk
    · rename_i el ad len cap k ix ht hx hi
      obtain ⟨inf, hinf, hk⟩ := szK_out hk
      obtain ⟨p, rfl, hb, hK⟩ := idxS_out hk
      refine ofValue hK (by simp only [execOp, e, hx, hi]; rfl) fun w _ => ?_
      simp [Instr.indexAt, asIntOf, run_underlying ht, hb, run_sizeOf hinf]
    · rename_i len el ad k ix ht hx hi
      obtain ⟨ad, rfl, hk2⟩ := someA_of hk
      obtain ⟨inf, hinf, hk3⟩ := szK_out hk2
      obtain ⟨p, hp, hb, hK⟩ := idxS_out hk3
      cases hp
      refine ofValue hK (by simp only [execOp, e, hx, hi]; rfl) fun w _ => ?_
      simp [Instr.indexAt, asIntOf, run_underlying ht, hb, run_sizeOf hinf, Instr.sureAddr]
    · exact hk.elim
  · -- fieldAddr
    rename_i t x f e
    replace hk := (wv_out hs hk).2
    split at hk
    · rename_i p hp
      obtain ⟨ad, rfl, hk⟩ := someA_of hk
      obtain ⟨v, hr, hK⟩ := wpR_run hk
      exact ⟨v, hK, fun w _ => by simp only [execOp, e, hp, Sem.run_bind, hr w, Result.andThen_ok, Sem.run_pure]⟩
    · exact hk.elim
  · -- build
    rename_i t ps e
    split at hk
    · rename_i vs i hvs hi
      have hps : (ps.map fun (i, x) => (i, a.eval x)) = vs.toArray := by
        have := evP_out hs hvs
        apply Array.ext'
        rw [Array.toList_map]
        exact this
      have fin : ∀ z, i.zero = some z → ((∃ fs : Array Field, P.underlying t = some (.struct fs) ∧ fs.toList.all (fun f => (P.info? f.type).isSome) = true) ∨ ∃ m e, P.underlying t = some (.array m e) ∧ (P.info? e).isSome = true) →
          (bld (placeOf P t) z.cells.toList vs fun cs => K (.agg cs.toArray)) → Tells P a o h K := by
        intro z hz hu hk
        obtain ⟨v, hK, hr⟩ := build_run hi hz hu hk
        refine ofValue hK (by simp only [execOp, e]; rfl) fun w _ => ?_
        rw [hps]; exact hr w
      split at hk
      · rename_i z fs hz hu
        split at hk
        · rename_i hall; exact fin z hz (.inl ⟨fs, hu, hall⟩) hk
        · exact hk.elim
      · rename_i z m el hz hu
        split at hk
        · rename_i hs2; exact fin z hz (.inr ⟨m, el, hu, hs2⟩) hk
        · exact hk.elim
      · exact hk.elim
    · exact hk.elim
  · -- index
    rename_i t x i e
    replace hk := (wv_out hs hk).2
    replace hk := (wv_out hs hk).2
    split at hk
    · rename_i s k ix ht hx hi
      obtain ⟨h0, b, hb, hK⟩ := hk
      refine ofValue hK (by simp only [execOp, e, hx, hi]; rfl) fun w _ => ?_
      simp [Instr.index, asIntOf, run_underlying ht, h0, hb]
    · rename_i len el cs k ix ht hx hi
      split at hk
      · rename_i d s hd hsh
        obtain ⟨inf, hinf, hk⟩ := szK_out hk
        split at hk
        · rename_i hb
          have hb := Nat.eq_of_beq_eq_true hb
          obtain ⟨hbd, x, hc, hK⟩ := hk
          refine ofValue hK (by simp only [execOp, e, hx, hi]; rfl) fun w _ => ?_
          have hc' : cs[ix.toNat]? = some (s.v x) := by rw [← hc, Array.getElem?_toList]
          simp [Instr.index, asIntOf, run_underlying ht, hbd, run_sizeOf hinf, part, shOf_at hsh w ⟨d, hd⟩, hb, hc']
        · exact hk.elim
      · rename_i d l hd hsh
        obtain ⟨inf, hinf, hk⟩ := szK_out hk
        split at hk
        · rename_i hb
          have hb := Nat.eq_of_beq_eq_true hb
          obtain ⟨hbd, x, hc, hK⟩ := hk
          refine ofValue hK (by simp only [execOp, e, hx, hi]; rfl) fun w _ => ?_
          have hc' : cs.extract (ix.toNat * l.length) (ix.toNat * l.length + l.length) = (vsA l x).toArray := by
            apply Array.ext'
            rw [Array.toList_extract, List.extract_eq_take_drop, ← hc, Nat.add_sub_cancel_left]
          simp [Instr.index, asIntOf, run_underlying ht, hbd, run_sizeOf hinf, part, shOf_agg hsh w, hb, hc']
        · exact hk.elim
      · exact hk.elim
    · exact genR_tells hs hk
  · -- slice
    rename_i t x lo hi e
    replace hk := (wv_out hs hk).2
    split at hk
    · rename_i el ad len cap l u ht hx hl hu
      obtain ⟨inf, hinf, h1, h2, hK⟩ := szK_out hk
      refine ofValue hK (by simp only [execOp, e, hx]; rfl) fun w _ => ?_
      have := sliceBounds_run (P := P) (isSlice := true) (evI_out hs hl) (evI_out hs hu) h1 h2 w
      simp [Instr.sliceAt, Instr.slice, run_underlying ht, this, run_sizeOf hinf]
    · rename_i s l u ht hx hl hu
      obtain ⟨h1, h2, hK⟩ := hk
      refine ofValue hK (by simp only [execOp, e, hx]; rfl) fun w _ => ?_
      have := sliceBounds_run (P := P) (isSlice := false) (evI_out hs hl) (evI_out hs hu) h1 h2 w
      simp [Instr.sliceAt, Instr.slice, run_underlying ht, this]
    · rename_i n el p l u ht hx hl hu
      obtain ⟨ad, rfl, hk2⟩ := someA_of hk
      obtain ⟨inf, hinf, h1, h2, hK⟩ := szK_out hk2
      refine ofValue hK (by simp only [execOp, e, hx]; rfl) fun w _ => ?_
      have := sliceBounds_run (P := P) (isSlice := false) (evI_out hs hl) (evI_out hs hu) h1 h2 w
      simp only [Instr.sliceAt, Sem.run_bind, run_underlying ht, Result.andThen_ok, Instr.sureAddr, Sem.run_pure, Option.map_none, this, run_sizeOf hinf]
      by_cases hc : n = (l.getD 0).toNat
      · rw [if_pos hc, if_pos hc]
      · rw [if_neg hc, if_neg hc]; rfl
    · exact hk.elim
  · -- slice, three indexes
    rename_i t x lo hi mx e
    replace hk := (wv_out hs hk).2
    replace hk := (wv_out hs hk).2
    replace hk := (wv_out hs hk).2
    split at hk
    · rename_i el ad len cap l k u k' m ht hx hl hu hm
      obtain ⟨inf, hinf, h1, h2, h3, hK⟩ := szK_out hk
      refine ofValue hK (by simp only [execOp, e, hx]; rfl) fun w _ => ?_
      have := bounds3_run (P := P) (isSlice := true) (len := len) (hk := k) (mk := k') (evI_out hs hl) h1 h2 h3 w
      simp only [Option.map_some, hu, hm]
      simp [Instr.sliceAt, Instr.slice, run_underlying ht, this, run_sizeOf hinf]
    · exact hk.elim
  · -- binOp
    rename_i op t x y yt e
    replace hk := (wv_out hs hk).2
    replace hk := (wv_out hs hk).2
    split at hk
    · -- interface
      rename_i ms ht
      split at hk
      · rename_i c hy
        obtain ⟨b, hK, hr⟩ := run_equalIn_ifc ht 9999 hk
        refine ofValue hK (by simp only [execOp, e, hy]; rfl) fun w _ => ?_
        have hr := hr w
        cases hv : a.eval x <;> simp_all [eqGuard, binOp, Op.equal, maxDepth_succ, ifcNil]
      · rename_i c hy
        obtain ⟨b, hK, hr⟩ := run_equalIn_ifc ht 9999 hk
        refine ofValue hK (by simp only [execOp, e, hy]; rfl) fun w _ => ?_
        have hr := hr w
        cases hv : a.eval x <;> simp_all [eqGuard, binOp, Op.equal, maxDepth_succ, ifcNil]
      · obtain ⟨tx, xx, ty, yy, b, hx, hy, hr, hK⟩ := hk
        refine ofValue hK (by simp only [execOp, e, hx, hy]; rfl) fun w _ => ?_
        simp [eqGuard, binOp, hr w]
      · obtain ⟨tx, xx, ty, yy, b, hx, hy, hr, hK⟩ := hk
        refine ofValue hK (by simp only [execOp, e, hx, hy]; rfl) fun w _ => ?_
        simp [eqGuard, binOp, hr w]
      · exact hk.elim
    · -- struct
      rename_i fs ht
      split at hk
      · rename_i xs ys hx hy
        obtain ⟨b, hK, hg, hr⟩ := eqS_out ht hk
        refine ofValue hK (by simp only [execOp, e, hx, hy]; rfl) fun w _ => ?_
        have hr := hr w
        simp [eqGuard, binOp, program, Sem.run, hg, hr]
      · rename_i xs ys hx hy
        obtain ⟨b, hK, hg, hr⟩ := eqS_out ht hk
        refine ofValue hK (by simp only [execOp, e, hx, hy]; rfl) fun w _ => ?_
        have hr := hr w
        simp [eqGuard, binOp, program, Sem.run, hg, hr]
      · exact hk.elim
    · -- pointer
      rename_i el ht
      split at hk
      · rename_i c p hx hy
        refine ofValue hk (by simp only [execOp, e, hx, hy]; rfl) fun w _ => ?_
        simp [eqGuard, binOp, Op.equal, maxDepth_succ, run_equalIn_ptr ht]
      · rename_i c p hx hy
        refine ofValue hk (by simp only [execOp, e, hx, hy]; rfl) fun w _ => ?_
        simp [eqGuard, binOp, Op.equal, maxDepth_succ, run_equalIn_ptr ht]
      · rename_i c p q hn hx hy
        obtain ⟨inf, hinf, hk⟩ := szK_out hk
        split at hk
        · exact hk.elim
        · rename_i hz
          have hz := Nat.ne_of_beq_eq_false hz
          obtain ⟨b, hK, hr⟩ := run_equalIn_ptrs ht hinf hz 9999 hk
          refine ofValue hK (by simp only [execOp, e, hx, hy]; rfl) fun w _ => ?_
          simp [eqGuard, binOp, Op.equal, maxDepth_succ, hr]
      · rename_i c p q hn hx hy
        obtain ⟨inf, hinf, hk⟩ := szK_out hk
        split at hk
        · exact hk.elim
        · rename_i hz
          have hz := Nat.ne_of_beq_eq_false hz
          obtain ⟨b, hK, hr⟩ := run_equalIn_ptrs ht hinf hz 9999 hk
          refine ofValue hK (by simp only [execOp, e, hx, hy]; rfl) fun w _ => ?_
          simp [eqGuard, binOp, Op.equal, maxDepth_succ, hr]
      · exact hk.elim
    · -- func
      rename_i fa fb fc ht
      split at hk
      · rename_i c hy
        obtain ⟨b, hK, hr⟩ := run_equalIn_fun ht 9999 hk
        refine ofValue hK (by simp only [execOp, e, hy]; rfl) fun w _ => ?_
        have hr := hr w
        cases hv : a.eval x <;> simp_all [eqGuard, binOp, Op.equal, maxDepth_succ, funNil]
      · rename_i c hy
        obtain ⟨b, hK, hr⟩ := run_equalIn_fun ht 9999 hk
        refine ofValue hK (by simp only [execOp, e, hy]; rfl) fun w _ => ?_
        have hr := hr w
        cases hv : a.eval x <;> simp_all [eqGuard, binOp, Op.equal, maxDepth_succ, funNil]
      · exact hk.elim
    · -- slice
      rename_i el ht
      split at hk
      · rename_i c p l cp l' cp' hx hy
        refine ofValue hk (by simp only [execOp, e, hx, hy]; rfl) fun w _ => ?_
        simp [eqGuard, binOp, Op.equal, maxDepth_succ, run_equalIn_slice ht]
      · rename_i c p l cp l' cp' hx hy
        refine ofValue hk (by simp only [execOp, e, hx, hy]; rfl) fun w _ => ?_
        simp [eqGuard, binOp, Op.equal, maxDepth_succ, run_equalIn_slice ht]
      · exact hk.elim
    · -- string
      split at hk
      · rename_i s1 s2 hx hy
        obtain ⟨hb, hK⟩ := hk
        refine ofValue hK (by simp only [execOp, e, hx, hy]; rfl) fun w _ => ?_
        have : ¬ ((s1.size + s2.size : Nat) : Int) > IntKind.i64.max := by
          show ¬ (9223372036854775807 : Int) < _
          omega
        simp only [eqGuard, binOp, Op.stringOp, Sem.run_bind]
        simp only [Bool.not_false, if_true, Sem.run_pure, Result.andThen_ok]
        rw [if_neg this]; rfl
      · exact genR_tells hs hk
    · -- i64
      split at hk
      · rename_i x' y' hx hy
        obtain ⟨h0, hK⟩ := hk
        refine ofValue hK (by simp only [execOp, e, hx, hy]; rfl) fun w _ => ?_
        simp [eqGuard, binOp, Op.intDiv, h0]
      · rename_i x' y' hx hy
        obtain ⟨h0, hK⟩ := hk
        refine ofValue hK (by simp only [execOp, e, hx, hy]; rfl) fun w _ => ?_
        simp [eqGuard, binOp, Op.intDiv, h0]
      · rename_i x' k y' hx hy
        obtain ⟨h0, hK⟩ := hk
        refine ofValue hK (by simp only [execOp, e, hx, hy]; rfl) fun w _ => ?_
        simp [eqGuard, binOp, Op.shift, Int.not_lt.2 h0]
      · rename_i x' k y' hx hy
        obtain ⟨h0, hK⟩ := hk
        refine ofValue hK (by simp only [execOp, e, hx, hy]; rfl) fun w _ => ?_
        simp [eqGuard, binOp, Op.shift, Int.not_lt.2 h0]
      · exact genR_tells hs hk
    · -- u64
      split at hk
      · rename_i x' y' hx hy
        obtain ⟨h0, hK⟩ := hk
        refine ofValue hK (by simp only [execOp, e, hx, hy]; rfl) fun w _ => ?_
        simp [eqGuard, binOp, Op.intDiv, h0]
      · rename_i x' y' hx hy
        obtain ⟨h0, hK⟩ := hk
        refine ofValue hK (by simp only [execOp, e, hx, hy]; rfl) fun w _ => ?_
        simp [eqGuard, binOp, Op.intDiv, h0]
      · rename_i x' k y' hx hy
        obtain ⟨h0, hK⟩ := hk
        refine ofValue hK (by simp only [execOp, e, hx, hy]; rfl) fun w _ => ?_
        simp [eqGuard, binOp, Op.shift, Int.not_lt.2 h0]
      · rename_i x' k y' hx hy
        obtain ⟨h0, hK⟩ := hk
        refine ofValue hK (by simp only [execOp, e, hx, hy]; rfl) fun w _ => ?_
        simp [eqGuard, binOp, Op.shift, Int.not_lt.2 h0]
      · exact genR_tells hs hk
    · exact genR_tells hs hk
  · exact genR_tells hs hk

/-! Loads over which writes may float. -/
structure ExtS (S : List Nat) (h h' : Hp) : Prop where
  size : h.size ≤ h'.size
  get : ∀ b, b < h.size → b ∉ S → h'[b]? = h[b]?
def ExtO (S : Option (List Nat)) (h h' : Hp) : Prop :=
  match S with
  | none => Ext h h'
  | some S => ExtS S h h'
def AdO (S : Option (List Nat)) (a : Addr) : Prop :=
  match S with
  | none => True
  | some S => a.block ∉ S
theorem ExtO.refl (S : Option (List Nat)) (h : Hp) : ExtO S h h := by
  cases S with
  | none => exact Ext.refl h
  | some S => exact ⟨Nat.le_refl _, fun _ _ _ => rfl⟩
theorem ExtO.trans {S : Option (List Nat)} {a b c : Hp} (h : ExtO S a b) (k : ExtO S b c) : ExtO S a c := by
  cases S with
  | none => exact Ext.trans h k
  | some S => exact ⟨Nat.le_trans h.size k.size, fun i hi hn => (k.get i (Nat.lt_of_lt_of_le hi h.size) hn).trans (h.get i hi hn)⟩
theorem ExtO.cell {S : Option (List Nat)} {h h' : Hp} (e : ExtO S h h') {a : Addr} (ha : AdO S a) {i : Nat} {v : Value} (hc : hcell h (a.add i) = some v) : hcell h' (a.add i) = some v := by
  cases S with
  | none => exact Ext.cell e hc
  | some S =>
    have := hcell_lt hc
    have hb : (a.add i).block = a.block := by unfold Addr.add; split <;> rfl
    unfold hcell at hc ⊢
    rw [e.get _ this (by rw [hb]; exact ha)]; exact hc
def TellsO (S : Option (List Nat)) (P : Program) (a : Act) (o : Oper) (h : Hp) (K : Value → Prop) : Prop :=
  ∃ v, K v ∧ ∀ w, (isLoad o.op = true → ExtO S h w.heap) → (execOp a.eval o).run P w = .ok (.value v) w
/-- A load's address lies outside S. -/
def ldOk (S : Option (List Nat)) (σ : AFr) (o : Oper) (X : Prop) : Prop :=
  match S with
  | none => X
  | some S => match o.op with
    | .load _ x => wv σ x fun
      | .pointer p => someA p fun a => a.block ∉ S ∧ X
      | _ => False
    | _ => X
theorem opR_outO {S : Option (List Nat)} {P : Program} {σ : AFr} {n : Nat} {a : Act} {o : Oper} {h : Hp} {K : Value → Prop} (hs : Says ds σ n a) (hk : ldOk S σ o (opR P σ o h K)) : TellsO S P a o h K := by
  cases hld : isLoad o.op with
  | false =>
    have hk : opR P σ o h K := by
      unfold ldOk at hk
      split at hk
      · exact hk
      · split at hk
        · rename_i e; rw [e] at hld; cases hld
        · exact hk
    obtain ⟨v, h1, h2⟩ := opR_out hs hk
    exact ⟨v, h1, fun w _ => h2 w fun e => by rw [hld] at e; cases e⟩
  | true =>
    obtain ⟨t, x, e⟩ : ∃ t x, o.op = .load t x := by
      cases ho : o.op <;> rw [ho] at hld <;> first | exact ⟨_, _, rfl⟩ | cases hld
    have ⟨hL, hk⟩ : (∀ ad, a.eval x = .pointer (some ad) → AdO S ad) ∧ opR P σ o h K := by
      unfold ldOk at hk
      split at hk
      · exact ⟨fun _ _ => trivial, hk⟩
      · rw [e] at hk
        simp only at hk
        have hk := (wv_out hs hk).2
        split at hk
        · rename_i p hp
          obtain ⟨ad, rfl, hn, hk⟩ := someA_of hk
          exact ⟨fun ad' h' => by rw [hp] at h'; cases h'; exact hn, hk⟩
        · exact hk.elim
    unfold opR at hk
    rw [e] at hk
    simp only at hk
    replace hk := (wv_out hs hk).2
    split at hk
    · rename_i p hp
      obtain ⟨ad, rfl, hk⟩ := someA_of hk
      obtain ⟨v, hK, hr⟩ := ldH_out hk
      refine ⟨v, hK, fun w hw => ?_⟩
      have := hr w fun i v hv => (hw (by rw [e]; rfl)).cell (hL ad hp) hv
      simp only [execOp, e, hp, Sem.run_bind, this, Result.andThen_ok, Sem.run_pure]
    · exact hk.elim
end Go.Proofs.YtlkaipmhjgfkpaaDoorK
