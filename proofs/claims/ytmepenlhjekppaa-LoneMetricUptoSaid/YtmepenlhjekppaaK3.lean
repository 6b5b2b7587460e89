/- The third part of the layer: that the operations that only read are told rightly. No condition. -/
import Derived.Test.YtmepenlhjekppaaK2
namespace Go.Proofs.YtmepenlhjekppaaK
open Go
variable {ds : List Deferred} {lr : Option Nat}

def isLoad : Op → Bool
  | .load .. => true
  | _ => false
/-- An operation that reads: its value, whatever else the world holds. -/
def Tells (P : Program) (a : Act) (o : Oper) (h : Hp) (K : Value → Prop) : Prop :=
  ∃ v, K v ∧ ∀ w, (isLoad o.op = true → Ext h w.heap) → (execOp a.eval o).run P w = .ok (.value v) w

theorem szK_out {P : Program} {e : TypeId} {K : Nat → Prop} (h : szK P e K) : ∃ i, P.info? e = some i ∧ K i.size := by
  unfold szK at h
  split at h
  · rename_i i e; exact ⟨i, e, h⟩
  · exact h.elim

theorem addr_zero (a : Addr) : a.add 0 = a := by unfold Addr.add; rw [if_pos rfl]
theorem ldH_out {P : Program} {t : TypeId} {h : Hp} {a : Addr} {K : Value → Prop} (hk : ldH P t h a K) :
    ∃ v, K v ∧ ∀ w, (∀ i v, hcell h (a.add i) = some v → hcell w.heap (a.add i) = some v) → (Instr.loadAt t (.pointer (some a))).run P w = .ok v w := by
  unfold ldH at hk
  split at hk
  · exact hk.elim
  · rename_i d s hd e
    obtain ⟨x, hx, hK⟩ := hk
    refine ⟨_, hK, fun w hw => ?_⟩
    have hc : w.cell? a = some (s.v x) := by rw [cell_eq]; have := hw 0 (s.v x); rw [addr_zero] at this; exact this hx
    simp [Instr.loadAt, Instr.sureAddr, loadVar, shOf_at e w ⟨d, hd⟩, hc]
  · rename_i d l hd e
    split at hk
    · rename_i i hi
      split at hk
      · rename_i hb
        have hb := Nat.eq_of_beq_eq_true hb
        obtain ⟨x, hK, hr⟩ := ldAs_out (P := P) hk
        refine ⟨_, hK, fun w hw => ?_⟩
        have := hr w hw #[]
        simp only [← hb] at this
        simp [Instr.loadAt, Instr.sureAddr, loadVar, shOf_agg e w, run_sizeOf hi, loadCells, this]
      · exact hk.elim
    · exact hk.elim

theorem idxS_out {a : Option Addr} {len : Nat} {i : Int} {size : Nat} {K : Addr → Prop} (h : idxS a len i size K) :
    ∃ p, a = some p ∧ (0 ≤ i ∧ i < (len : Int)) ∧ K (p.add (i.toNat * size)) := by
  obtain ⟨hb, h⟩ := h
  obtain ⟨p, rfl, h⟩ := someA_of h
  exact ⟨p, rfl, hb, h⟩

theorem sliceBounds_run {P : Program} {isSlice : Bool} {len cap : Nat} {lo hi : Option Value} {lo' hi' : Option Int} 
    (hl : lo = none ∧ lo' = none ∨ ∃ k n, lo = some (.int k n) ∧ lo' = some n) (hh : hi = none ∧ hi' = none ∨ ∃ k n, hi = some (.int k n) ∧ hi' = some n)
    (h1 : 0 ≤ hi'.getD len ∧ hi'.getD len ≤ (cap : Int)) (h2 : 0 ≤ lo'.getD 0 ∧ lo'.getD 0 ≤ hi'.getD len) (w : World) :
    (Instr.sliceBounds isSlice len cap lo hi none).run P w = .ok ((lo'.getD 0).toNat, (hi'.getD len).toNat, cap) w := by
  rcases hl with ⟨rfl, rfl⟩ | ⟨k, n, rfl, rfl⟩ <;> rcases hh with ⟨rfl, rfl⟩ | ⟨k', n', rfl, rfl⟩ <;>
    simp only [Option.getD_none, Option.getD_some] at h1 h2 ⊢
  · simp [Instr.sliceBounds]
  · have : (0 ≤ n' ∧ n' ≤ (cap : Int)) := h1
    simp [Instr.sliceBounds, Instr.sliceBound, asIntOf, this]
  · have : (0 ≤ n ∧ n ≤ (len : Int)) := h2
    simp [Instr.sliceBounds, Instr.sliceBound, asIntOf, this]
  · have e1 : (0 ≤ n' ∧ n' ≤ (cap : Int)) := h1
    have e2 : (0 ≤ n ∧ n ≤ (n'.toNat : Int)) := ⟨h2.1, by rw [Int.toNat_of_nonneg h1.1]; exact h2.2⟩
    simp only [Instr.sliceBounds, Instr.sliceBound, asIntOf, Sem.run_bind, Sem.run_pure, Result.andThen_ok, if_pos e1, if_pos e2, Option.isSome_none, Bool.false_eq_true, if_false]

theorem evI_out {σ : AFr} {n : Nat} {a : Act} (hs : Says ds σ n a) {x : Option Operand} {r : Option Int} (h : evI σ x = some r) :
    (x.map a.eval = none ∧ r = none) ∨ ∃ k n, x.map a.eval = some (.int k n) ∧ r = some n := by
  unfold evI at h
  split at h
  · cases h; exact .inl ⟨rfl, rfl⟩
  · rename_i y
    split at h
    · rename_i k n e
      cases h
      refine .inr ⟨k, n, ?_, rfl⟩
      simp only [Option.map_some, hs.eval e]
    · cases h

theorem ofValue {P : Program} {a : Act} {o : Oper} {h : Hp} {K : Value → Prop} {s : Sem Value} {v : Value} (hK : K v)
    (he : execOp a.eval o = (do pure (Next.value (← s)))) (hr : ∀ w, (isLoad o.op = true → Ext h w.heap) → s.run P w = .ok v w) : Tells P a o h K :=
  ⟨v, hK, fun w hw => by rw [he]; simp [hr w hw]⟩
theorem genR_tells {P : Program} {σ : AFr} {n : Nat} {a : Act} {o : Oper} {h : Hp} {K : Value → Prop} (hs : Says ds σ n a) (hk : genR P σ o K) : Tells P a o h K := by
  obtain ⟨v, hK, hr⟩ := genR_out hs hk
  exact ⟨v, hK, fun w _ => hr w⟩

theorem run_pickBool {a : Act} {c x y : Operand} {t : Bool} (P : Program) (w : World) (hc : a.eval c = .bool t) :
    (do pure (Next.value (if ← asBool (a.eval c) then a.eval x else a.eval y)) : Sem Next).run P w = .ok (.value (if t then a.eval x else a.eval y)) w := by
  simp [hc, asBool]

theorem tells_id {P : Program} {a : Act} {o : Oper} {h : Hp} {K : Value → Prop} {v : Value} (hK : K v) (he : execOp a.eval o = pure (Next.value v)) : Tells P a o h K :=
  ⟨v, hK, fun w _ => by rw [he]; rfl⟩

theorem nilChk_out {v : Value} {K : Value → Prop} (h : nilChk v K) : K v ∧ ((∃ a, v = .pointer (some a)) ∨ (∃ f a b, v = .func (.func f) a b) ∨ ∃ t x, v = .iface t x) := by
  unfold nilChk at h
  split at h
  · obtain ⟨a, rfl, h⟩ := someA_of h; exact ⟨h, .inl ⟨a, rfl⟩⟩
  · exact ⟨h, .inr (.inl ⟨_, _, _, rfl⟩)⟩
  · exact ⟨h, .inr (.inr ⟨_, _, rfl⟩)⟩
  · exact h.elim

theorem run_equalIn_ptr {P : Program} {t e : TypeId} (ht : P.underlying t = some (.pointer e)) (d : Nat) (p : Option Addr) (w : World) :
    (Op.equalIn (d + 1) t (.pointer p) (.pointer none)).run P w = .ok p.isNone w := by
  cases p <;> simp [Op.equalIn, run_underlying ht]
theorem run_equalIn_slice {P : Program} {t e : TypeId} (ht : P.underlying t = some (.slice e)) (d : Nat) (p : Option Addr) (l c l' c' : Nat) (w : World) :
    (Op.equalIn (d + 1) t (.slice p l c) (.slice none l' c')).run P w = .ok p.isNone w := by
  cases p <;> simp [Op.equalIn, run_underlying ht]
theorem run_equalIn_ifc {P : Program} {t : TypeId} {ms : Array (String × TypeId)} (ht : P.underlying t = some (.interface ms)) (d : Nat) {v : Value} {K : Bool → Prop} (h : ifcNil v K) :
    ∃ b, K b ∧ ∀ w, (Op.equalIn (d + 1) t v .nilIface).run P w = .ok b w := by
  unfold ifcNil at h
  split at h
  · exact ⟨true, h, fun w => by simp [Op.equalIn, run_underlying ht]⟩
  · exact ⟨false, h, fun w => by simp [Op.equalIn, run_underlying ht]⟩
  · exact h.elim

theorem maxDepth_succ : Op.maxDepth = 9999 + 1 := rfl

theorem optK_out {o : Option Value} {K : Value → Prop} (h : optK o K) : ∃ v, o = some v ∧ K v := by
  cases o with
  | none => exact h.elim
  | some v => exact ⟨v, rfl, h⟩
theorem pickK_out {t : Bool} {x y : Option Value} {K : Value → Prop} (h : pickK t x y K) : ∃ v, (if t then x else y) = some v ∧ K v := by
  unfold pickK at h
  split at h
  · cases t <;> exact ⟨_, rfl, h⟩
  · rcases cnd_of h with ⟨rfl, h⟩ | ⟨rfl, h⟩
    · exact optK_out h
    · exact optK_out h

theorem opR_out {P : Program} {σ : AFr} {n : Nat} {a : Act} {o : Oper} {h : Hp} {K : Value → Prop} (hs : Says ds σ n a) (hk : opR P σ o h K) : Tells P a o h K := by
  unfold opR at hk
  split at hk
  · -- load
    rename_i t x e
    replace hk := (wv_out hs hk).2
    split at hk
    · rename_i p hp
      obtain ⟨ad, rfl, hk⟩ := someA_of hk
      obtain ⟨v, hK, hr⟩ := ldH_out hk
      exact ofValue hK (by simp only [execOp, e, hp]) fun w hw => hr w fun i v hv => (hw (by rw [e]; rfl)).cell hv
    · exact hk.elim
  · -- nilCheck
    rename_i x e
    replace hk := (wv_out hs hk).2
    obtain ⟨hK, ⟨p, hv⟩ | ⟨f, fs, cs, hv⟩ | ⟨t, y, hv⟩⟩ := nilChk_out hk
    all_goals exact tells_id hK (by simp only [execOp, e, hv])
  · -- pick
    rename_i c x y e
    replace hk := (wv_out hs hk).2
    split at hk
    · rename_i t ht
      obtain ⟨v, hv, hK⟩ := pickK_out hk
      have key : (if t then a.eval x else a.eval y) = v := by
        cases t
        · exact hs.eval hv
        · exact hs.eval hv
      exact ⟨v, hK, fun w _ => by simp only [execOp, e]; rw [← key]; exact run_pickBool P w ht⟩
    · exact hk.elim
  · -- indexAddr
    rename_i t x i e
    replace hk := (wv_out hs hk).2
    replace hk := (wv_out hs hk).2
    split at hk
    · rename_i el ad len cap k ix ht hx hi
      obtain ⟨inf, hinf, hk⟩ := szK_out hk
      obtain ⟨p, rfl, hb, hK⟩ := idxS_out hk
      refine ofValue hK (by simp only [execOp, e, hx, hi]; rfl) fun w _ => ?_
      simp [Instr.indexAt, asIntOf, run_underlying ht, hb, run_sizeOf hinf]
    · rename_i len el ad k ix ht hx hi
      obtain ⟨ad, rfl, hk2⟩ := someA_of hk
      obtain ⟨inf, hinf, hk3⟩ := szK_out hk2
      obtain ⟨p, hp, hb, hK⟩ := idxS_out hk3
      cases hp
      refine ofValue hK (by simp only [execOp, e, hx, hi]; rfl) fun w _ => ?_
      simp [Instr.indexAt, asIntOf, run_underlying ht, hb, run_sizeOf hinf, Instr.sureAddr]
    · exact hk.elim
  · -- index
    rename_i t x i e
    replace hk := (wv_out hs hk).2
    replace hk := (wv_out hs hk).2
    split at hk
    · rename_i s k ix ht hx hi
      obtain ⟨h0, b, hb, hK⟩ := hk
      refine ofValue hK (by simp only [execOp, e, hx, hi]; rfl) fun w _ => ?_
      simp [Instr.index, asIntOf, run_underlying ht, h0, hb]
    · exact genR_tells hs hk
  · -- slice
    rename_i t x lo hi e
    replace hk := (wv_out hs hk).2
    split at hk
    · rename_i el ad len cap l u ht hx hl hu
      obtain ⟨inf, hinf, h1, h2, hK⟩ := szK_out hk
      refine ofValue hK (by simp only [execOp, e, hx]; rfl) fun w _ => ?_
      have := sliceBounds_run (P := P) (isSlice := true) (evI_out hs hl) (evI_out hs hu) h1 h2 w
      simp [Instr.sliceAt, Instr.slice, run_underlying ht, this, run_sizeOf hinf]
    · rename_i s l u ht hx hl hu
      obtain ⟨h1, h2, hK⟩ := hk
      refine ofValue hK (by simp only [execOp, e, hx]; rfl) fun w _ => ?_
      have := sliceBounds_run (P := P) (isSlice := false) (evI_out hs hl) (evI_out hs hu) h1 h2 w
      simp [Instr.sliceAt, Instr.slice, run_underlying ht, this]
    · exact hk.elim
  · -- binOp
    rename_i op t x y yt e
    replace hk := (wv_out hs hk).2
    replace hk := (wv_out hs hk).2
    split at hk
    · -- interface
      rename_i ms ht
      split at hk
      · rename_i c hy
        obtain ⟨b, hK, hr⟩ := run_equalIn_ifc ht 9999 hk
        refine ofValue hK (by simp only [execOp, e, hy]; rfl) fun w _ => ?_
        have hr := hr w
        cases hv : a.eval x <;> simp_all [eqGuard, binOp, Op.equal, maxDepth_succ, ifcNil]
      · rename_i c hy
        obtain ⟨b, hK, hr⟩ := run_equalIn_ifc ht 9999 hk
        refine ofValue hK (by simp only [execOp, e, hy]; rfl) fun w _ => ?_
        have hr := hr w
        cases hv : a.eval x <;> simp_all [eqGuard, binOp, Op.equal, maxDepth_succ, ifcNil]
      · exact hk.elim
    · -- pointer
      rename_i el ht
      split at hk
      · rename_i c p hx hy
        refine ofValue hk (by simp only [execOp, e, hx, hy]; rfl) fun w _ => ?_
        simp [eqGuard, binOp, Op.equal, maxDepth_succ, run_equalIn_ptr ht]
      · rename_i c p hx hy
        refine ofValue hk (by simp only [execOp, e, hx, hy]; rfl) fun w _ => ?_
        simp [eqGuard, binOp, Op.equal, maxDepth_succ, run_equalIn_ptr ht]
      · exact hk.elim
    · -- slice
      rename_i el ht
      split at hk
      · rename_i c p l cp l' cp' hx hy
        refine ofValue hk (by simp only [execOp, e, hx, hy]; rfl) fun w _ => ?_
        simp [eqGuard, binOp, Op.equal, maxDepth_succ, run_equalIn_slice ht]
      · rename_i c p l cp l' cp' hx hy
        refine ofValue hk (by simp only [execOp, e, hx, hy]; rfl) fun w _ => ?_
        simp [eqGuard, binOp, Op.equal, maxDepth_succ, run_equalIn_slice ht]
      · exact hk.elim
    · -- string
      split at hk
      · rename_i s1 s2 hx hy
        obtain ⟨hb, hK⟩ := hk
        refine ofValue hK (by simp only [execOp, e, hx, hy]; rfl) fun w _ => ?_
        have : ¬ ((s1.size + s2.size : Nat) : Int) > IntKind.i64.max := by
          show ¬ (9223372036854775807 : Int) < _
          omega
        simp only [eqGuard, binOp, Op.stringOp, Sem.run_bind]
        simp only [Bool.not_false, if_true, Sem.run_pure, Result.andThen_ok]
        rw [if_neg this]; rfl
      · exact genR_tells hs hk
    · -- i64
      split at hk
      · rename_i x' y' hx hy
        obtain ⟨h0, hK⟩ := hk
        refine ofValue hK (by simp only [execOp, e, hx, hy]; rfl) fun w _ => ?_
        simp [eqGuard, binOp, Op.intDiv, h0]
      · rename_i x' y' hx hy
        obtain ⟨h0, hK⟩ := hk
        refine ofValue hK (by simp only [execOp, e, hx, hy]; rfl) fun w _ => ?_
        simp [eqGuard, binOp, Op.intDiv, h0]
      · rename_i x' k y' hx hy
        obtain ⟨h0, hK⟩ := hk
        refine ofValue hK (by simp only [execOp, e, hx, hy]; rfl) fun w _ => ?_
        simp [eqGuard, binOp, Op.shift, Int.not_lt.2 h0]
      · rename_i x' k y' hx hy
        obtain ⟨h0, hK⟩ := hk
        refine ofValue hK (by simp only [execOp, e, hx, hy]; rfl) fun w _ => ?_
        simp [eqGuard, binOp, Op.shift, Int.not_lt.2 h0]
      · exact genR_tells hs hk
    · -- u64
      split at hk
      · rename_i x' y' hx hy
        obtain ⟨h0, hK⟩ := hk
        refine ofValue hK (by simp only [execOp, e, hx, hy]; rfl) fun w _ => ?_
        simp [eqGuard, binOp, Op.intDiv, h0]
      · rename_i x' y' hx hy
        obtain ⟨h0, hK⟩ := hk
        refine ofValue hK (by simp only [execOp, e, hx, hy]; rfl) fun w _ => ?_
        simp [eqGuard, binOp, Op.intDiv, h0]
      · rename_i x' k y' hx hy
        obtain ⟨h0, hK⟩ := hk
        refine ofValue hK (by simp only [execOp, e, hx, hy]; rfl) fun w _ => ?_
        simp [eqGuard, binOp, Op.shift, Int.not_lt.2 h0]
      · rename_i x' k y' hx hy
        obtain ⟨h0, hK⟩ := hk
        refine ofValue hK (by simp only [execOp, e, hx, hy]; rfl) fun w _ => ?_
        simp [eqGuard, binOp, Op.shift, Int.not_lt.2 h0]
      · exact genR_tells hs hk
    · exact genR_tells hs hk
  · exact genR_tells hs hk

/-! Loads over which writes may float. -/
structure ExtS (S : List Nat) (h h' : Hp) : Prop where
  size : h.size ≤ h'.size
  get : ∀ b, b < h.size → b ∉ S → h'[b]? = h[b]?
def ExtO (S : Option (List Nat)) (h h' : Hp) : Prop :=
  match S with
  | none => Ext h h'
  | some S => ExtS S h h'
def AdO (S : Option (List Nat)) (a : Addr) : Prop :=
  match S with
  | none => True
  | some S => a.block ∉ S
theorem ExtO.refl (S : Option (List Nat)) (h : Hp) : ExtO S h h := by
  cases S with
  | none => exact Ext.refl h
  | some S => exact ⟨Nat.le_refl _, fun _ _ _ => rfl⟩
theorem ExtO.trans {S : Option (List Nat)} {a b c : Hp} (h : ExtO S a b) (k : ExtO S b c) : ExtO S a c := by
  cases S with
  | none => exact Ext.trans h k
  | some S => exact ⟨Nat.le_trans h.size k.size, fun i hi hn => (k.get i (Nat.lt_of_lt_of_le hi h.size) hn).trans (h.get i hi hn)⟩
theorem ExtO.cell {S : Option (List Nat)} {h h' : Hp} (e : ExtO S h h') {a : Addr} (ha : AdO S a) {i : Nat} {v : Value} (hc : hcell h (a.add i) = some v) : hcell h' (a.add i) = some v := by
  cases S with
  | none => exact Ext.cell e hc
  | some S =>
    have := hcell_lt hc
    have hb : (a.add i).block = a.block := by unfold Addr.add; split <;> rfl
    unfold hcell at hc ⊢
    rw [e.get _ this (by rw [hb]; exact ha)]; exact hc
def TellsO (S : Option (List Nat)) (P : Program) (a : Act) (o : Oper) (h : Hp) (K : Value → Prop) : Prop :=
  ∃ v, K v ∧ ∀ w, (isLoad o.op = true → ExtO S h w.heap) → (execOp a.eval o).run P w = .ok (.value v) w
/-- A load's address lies outside S. -/
def ldOk (S : Option (List Nat)) (σ : AFr) (o : Oper) (X : Prop) : Prop :=
  match S with
  | none => X
  | some S => match o.op with
    | .load _ x => wv σ x fun
      | .pointer p => someA p fun a => a.block ∉ S ∧ X
      | _ => False
    | _ => X
theorem opR_outO {S : Option (List Nat)} {P : Program} {σ : AFr} {n : Nat} {a : Act} {o : Oper} {h : Hp} {K : Value → Prop} (hs : Says ds σ n a) (hk : ldOk S σ o (opR P σ o h K)) : TellsO S P a o h K := by
  cases hld : isLoad o.op with
  | false =>
    have hk : opR P σ o h K := by
      unfold ldOk at hk
      split at hk
      · exact hk
      · split at hk
        · rename_i e; rw [e] at hld; cases hld
        · exact hk
    obtain ⟨v, h1, h2⟩ := opR_out hs hk
    exact ⟨v, h1, fun w _ => h2 w fun e => by rw [hld] at e; cases e⟩
  | true =>
    obtain ⟨t, x, e⟩ : ∃ t x, o.op = .load t x := by
      cases ho : o.op <;> rw [ho] at hld <;> first | exact ⟨_, _, rfl⟩ | cases hld
    have ⟨hL, hk⟩ : (∀ ad, a.eval x = .pointer (some ad) → AdO S ad) ∧ opR P σ o h K := by
      unfold ldOk at hk
      split at hk
      · exact ⟨fun _ _ => trivial, hk⟩
      · rw [e] at hk
        simp only at hk
        have hk := (wv_out hs hk).2
        split at hk
        · rename_i p hp
          obtain ⟨ad, rfl, hn, hk⟩ := someA_of hk
          exact ⟨fun ad' h' => by rw [hp] at h'; cases h'; exact hn, hk⟩
        · exact hk.elim
    unfold opR at hk
    rw [e] at hk
    simp only at hk
    replace hk := (wv_out hs hk).2
    split at hk
    · rename_i p hp
      obtain ⟨ad, rfl, hk⟩ := someA_of hk
      obtain ⟨v, hK, hr⟩ := ldH_out hk
      refine ⟨v, hK, fun w hw => ?_⟩
      have := hr w fun i v hv => (hw (by rw [e]; rfl)).cell (hL ad hp) hv
      simp only [execOp, e, hp, Sem.run_bind, this, Result.andThen_ok, Sem.run_pure]
    · exact hk.elim
end Go.Proofs.YtmepenlhjekppaaK
