/- The fourth part of the layer: operations that write or call; regions in the order of the text. No condition. -/
import Derived.Test.YtlkaipmhjgfkpaaDoorK3
namespace Go.Proofs.YtlkaipmhjgfkpaaDoorK
open Go
variable {ds : List Deferred} {lr : Option Nat}
set_option linter.unusedSimpArgs false
set_option linter.unusedVariables false

def isReader (P : Program) : Op → Bool
  | .convert s d _ => match P.underlying s, P.underlying d with
    | some (.int _), some (.int _) => true
    | _, _ => false
  | .move _ | .assign _ | .pick .. | .load .. | .nilCheck _ | .binOp .. | .unOp .. | .makeInterface .. | .makeFunc .. | .build ..
  | .slice .. | .fieldAddr .. | .field .. | .indexAddr .. | .index .. | .extract .. => true
  | .call { callee := .builtin .len, .. } | .call { callee := .builtin .cap, .. } | .call { callee := .builtin .max, .. } | .call { callee := .builtin .min, .. } => true
  | _ => false
def genW (P : Program) (σ : AFr) (o : Oper) (h : Hp) (K : Value → Hp → Prop) : Prop :=
  match plainOp o.op && knows σ o.op.operands with
  | true => wpS P (execOp (ev! σ) o) h fun
    | .value v, h' => K v h'
    | .skip, h' => K undef h'
    | _, _ => False
  | false => False
/-- A result of a call, by its static type. -/
def takeRes (shs : List Sh) (K : Value → Hp → Prop) : Value → Hp → Prop :=
  fun v h => ∃ s : St shs, v = mkRes shs s ∧ K (mkRes shs s) h
def evs (σ : AFr) (xs : Array Operand) : Option (List Value) := xs.toList.mapM (ev σ)
/-- A round of a range over a function. -/
def YieldH (P : Program) (l : Nat) (args : Array Value) (h : Hp) (R : Value → Hp → Prop) : Prop :=
  ∀ w, w.heap = h → ∃ fn tmps assign body, (Instr.yield l args).run P w = .ok (.round l fn tmps assign body) w ∧
    RoundIn Fence.wide 0 P l fn tmps assign body w fun e w' => ∃ v, e = .returned v ∧ IO w w' ∧ R v w'.heap
/-- A call of a function without a body: what the machine has for it. -/
def extK (P : Program) (f : FuncId) (args : Array Value) (h : Hp) (R : Value → Hp → Prop) : Prop :=
  wpS P (callFunc f args) h fun nx h' => match nx with
    | .value v => R v h'
    | _ => False
/-- A computation of the machine that hands back a value of one cell. -/
def smV (P : Program) (s : Sem Value) (a : At) (h : Hp) (K : a.T → Hp → Prop) : Prop := wpS P s h fun v h' => ∃ x : a.T, v = a.v x ∧ K x h'
def smU (P : Program) (s : Sem Value) (h : Hp) (K : Hp → Prop) : Prop := wpS P s h fun v h' => v = .tuple #[] ∧ K h'
def callK (P : Program) (fv : Value) (args : Array Value) (h : Hp) (R : Value → Hp → Prop) : Prop :=
  match fv with
  | .func (.yield l) first _ => YieldH P l (first ++ args) h R
  | .func (.func f) first cap => match entered P f with
    | true => CallsH P f (first ++ args ++ cap) h R
    | false => extK P f (first ++ args ++ cap) h R
  | _ => False
/-- A method is called through an interface: what the machine's table has for the value's own type. -/
def invK (P : Program) (rv : Value) (m : String) (args : Array Value) (h : Hp) (R : Value → Hp → Prop) : Prop :=
  ∃ t v f v', rv = .iface t v ∧ (∀ w, w.heap = h → (Go.method (P.types.size + Made.depth) t v m).run P w = .ok (f, v') w) ∧ callK P (.func (.func f) #[v'] #[]) args h R
/-- 'x.(T)'. -/
def taV (P : Program) (xv : Value) (xt at' : TypeId) (ok : Bool) (shs : List Sh) (h : Hp) (K : St shs → Prop) : Prop :=
  ∃ s : St shs, (∀ w, w.heap = h → (Instr.typeAssert xv xt at' ok).run P w = .ok (mkRes shs s) w) ∧ K s
/-- What 'x.(T)' hands back: the value, and, if it is asked for, whether it was one. -/
def taShs (P : Program) (at' : TypeId) (ok : Bool) : List Sh :=
  match ok with
  | true => rsh P at' ++ [.at .bool]
  | false => rsh P at'
/-- The cells that an append takes from its second operand. -/
def srcCells (h : Hp) (n : Nat) (x : Value) (K : List Value → Prop) : Prop :=
  match x with
  | .slice (some b) _ _ => ∃ vs : List Value, vs.length = n ∧ (∀ i, i < n → hcell h (b.add i) = vs[i]?) ∧ K vs
  | .slice none _ _ => K []
  | .string s => K (s.data.toList.map fun b => .int .u8 b.toNat)
  | _ => False
def srcLen (x : Value) (K : Nat → Prop) : Prop :=
  match x with
  | .slice _ n _ => K n
  | .string s => K s.size
  | _ => False
def hsets (h : Hp) (a : Addr) : List Value → Nat → Hp
  | [], _ => h
  | v :: l, i => hsets (hset h (a.add i) v) a l (i + 1)
def oneCell (v : Value) : Bool :=
  match v with
  | .agg _ => false
  | .tuple _ => false
  | _ => true
/-- 'append(s, x...)', over cells of one place each: within the capacity the base is written, else a new block is made. -/
def appB (e : TypeId) (size bytes : Nat) (zero : List Value) (base : Option Addr) (len cap : Nat) (x : Value) (h : Hp) (K : Sl → Hp → Prop) (n : Nat) : Prop :=
  (len + n ≤ cap → srcCells h (n * size) x fun new =>
    match base with
    | some a => (∀ i, i < new.length → (hcell h (a.add (len * size + i))).isSome = true ∧ hfrozen h (a.add (len * size + i)) = false) ∧ (∀ v ∈ new, oneCell v = true) ∧
        K ⟨some a, len + n, cap⟩ (hsets h (a.add (len * size)) new 0)
    | none => new = [] ∧ K ⟨none, len + n, cap⟩ h) ∧
  (cap < len + n → (len + n) * bytes ≤ 140737488355328 ∧ (0 < bytes ∧ bytes ≤ 65536) ∧ srcCells h (n * size) x fun new =>
    srcCells h (len * size) (.slice base len cap) fun old =>
      ∀ c, len + n ≤ c → K ⟨some ⟨h.size, 0, none⟩, len + n, c⟩ (h.push (.cells (old ++ new ++ (Builtin.zeroCells zero.toArray (c - (len + n))).toList).toArray e)))
/-- 'append(s, make([]T, l)...)'. -/
def appZ (e : TypeId) (size bytes : Nat) (zero : List Value) (base : Option Addr) (len cap : Nat) (l : Int) (h : Hp) (K : Sl → Hp → Prop) : Prop :=
  (0 ≤ l ∧ 0 < bytes ∧ l * bytes ≤ 140737488355328) ∧
  (len + l.toNat ≤ cap →
    match base with
    | some a => (∀ i, i < (Builtin.zeroCells zero.toArray l.toNat).toList.length → (hcell h (a.add (len * size + i))).isSome = true ∧ hfrozen h (a.add (len * size + i)) = false) ∧ (∀ v ∈ (Builtin.zeroCells zero.toArray l.toNat).toList, oneCell v = true) ∧
        K ⟨some a, len + l.toNat, cap⟩ (hsets h (a.add (len * size)) (Builtin.zeroCells zero.toArray l.toNat).toList 0)
    | none => l.toNat = 0 ∧ K ⟨none, len + l.toNat, cap⟩ h) ∧
  (cap < len + l.toNat → (len + l.toNat) * bytes ≤ 140737488355328 ∧ bytes ≤ 65536 ∧
    srcCells h (len * size) (.slice base len cap) fun old =>
      ∀ c, len + l.toNat ≤ c → K ⟨some ⟨h.size, 0, none⟩, len + l.toNat, c⟩ (h.push (.cells (old ++ (Builtin.zeroCells zero.toArray l.toNat).toList ++ (Builtin.zeroCells zero.toArray (c - (len + l.toNat))).toList).toArray e)))
def appS (e : TypeId) (size bytes : Nat) (zero : List Value) (base : Option Addr) (len cap : Nat) (x : Value) (h : Hp) (K : Sl → Hp → Prop) : Prop :=
  srcLen x (appB e size bytes zero base len cap x h K)

/-- 'make([]T, l, c)'. -/
def mkS (e : TypeId) (size bytes : Nat) (zero : List Value) (l c : Int) (h : Hp) (K : Sl → Hp → Prop) : Prop :=
  (0 ≤ l ∧ l ≤ c) ∧ (0 < bytes ∧ c * bytes ≤ 140737488355328) ∧
    K ⟨some ⟨h.size, 0, none⟩, l.toNat, c.toNat⟩ (h.push (.cells ((Array.range (c.toNat * size)).map fun i => zero.toArray[i % zero.length]!) e))
/-- 'copy(dst, src)', of slices. -/
def cpS (size : Nat) (base : Option Addr) (dlen : Nat) (x : Value) (h : Hp) (K : Nat → Hp → Prop) : Prop :=
  match x with
  | .slice sb slen sc => srcCells h (min slen dlen * size) (.slice sb slen sc) fun cs =>
    match base with
    | some a => (∀ i, i < cs.length → (hcell h (a.add i)).isSome = true ∧ hfrozen h (a.add i) = false) ∧ (∀ v ∈ cs, oneCell v = true) ∧ K (min slen dlen) (hsets h a cs 0)
    | none => K (min slen dlen) h
  | _ => False
/-- 'string(bytes)'. -/
def btS (h : Hp) (a : Option Addr) (len : Nat) (K : ByteArray → Prop) : Prop :=
  match a with
  | none => K ByteArray.empty
  | some a => ∃ bs : List UInt8, bs.length = len ∧ (∀ i, i < len → hcell h (a.add i) = (bs[i]?).map fun b => .int .u8 b.toNat) ∧ K ⟨bs.toArray⟩

def opW (P : Program) (σ : AFr) (o : Oper) (h : Hp) (K : Value → Hp → Prop) : Prop :=
  match o.op with
  | .store t x y => wv σ x fun x => wv σ y fun y =>
    match P.underlying t, shOf P t, x with
    | none, _, _ => False
    | some _, .at _, .pointer p => szK P t fun sz => sz = 1 ∧ someA p fun a => stO h a y (K undef (hset h a y))
    | _, _, _ => genW P σ o h K
  | .call { callee := .value f, args, .. } => wv σ f fun fv =>
    match evs σ args with
    | some vs => callK P fv vs.toArray h (takeRes (rsh P o.type) K)
    | none => False
  | .call { callee := .invoke rx m, args, .. } => wv σ rx fun rv =>
    match evs σ args with
    | some vs => invK P rv m vs.toArray h (takeRes (rsh P o.type) K)
    | none => False
  | .typeAssert x xt at' ok => wv σ x fun xv => taV P xv xt at' ok (taShs P at' ok) h fun s => K (mkRes (taShs P at' ok) s) h
  | .call { callee := .builtin .append, args, argTypes } =>
    match evs σ args, argTypes.toList with
    | some [.slice base len cap, x], [t, u] => match P.underlying t, P.underlying u with
      | some (.slice e), some (.int _) => match P.info? e, x with
        | some i, .int _ l => match i.zero with
          | some z => match Nat.beq z.cells.size i.size with
            | true => appZ e i.size i.bytes z.cells.toList base len cap l h fun s h' => K (.slice s.a s.len s.cap) h'
            | false => False
          | none => False
        | _, _ => False
      | _, some (.int _) => False
      | some (.slice e), some _ => match P.info? e with
        | some i => match i.zero with
          | some z => appS e i.size i.bytes z.cells.toList base len cap x h fun s h' => K (.slice s.a s.len s.cap) h'
          | none => False
        | none => False
      | _, _ => False
    | _, _ => False
  | .makeSlice t l c => wv σ l fun l => wv σ c fun c =>
    match P.underlying t, l, c with
    | some (.slice e), .int _ l, .int _ c => match P.info? e with
      | some i => match i.zero with
        | some z => match Nat.beq z.cells.size i.size with
          | true => mkS e i.size i.bytes z.cells.toList l c h fun s h' => K (.slice s.a s.len s.cap) h'
          | false => False
        | none => False
      | none => False
    | _, _, _ => False
  | .call { callee := .builtin .copy, args, argTypes } =>
    match evs σ args, argTypes.toList with
    | some [.slice base len _, x], t :: _ => match P.underlying t with
      | some (.slice e) => match P.info? e with
        | some i => cpS i.size base len x h fun n h' => K (.int .i64 n) h'
        | none => False
      | _ => False
    | _, _ => False
  | .call { callee := .builtin .unsafeSliceData, args, argTypes } =>
    match evs σ args with
    | some vs => smV P (Builtin.unsafeSliceData_ argTypes o.type vs.toArray) .ptr h fun q h' => K (.pointer q) h'
    | none => False
  | .call { callee := .builtin .unsafeString, args, argTypes } =>
    match evs σ args with
    | some vs => smV P (Builtin.unsafeString_ argTypes o.type vs.toArray) .str h fun q h' => K (.string q) h'
    | none => False
  | .call { callee := .builtin .clear, args, argTypes } =>
    match evs σ args with
    | some vs => smU P (Builtin.clear_ argTypes o.type vs.toArray) h fun h' => K (.tuple #[]) h'
    | none => False
  | .convert s d x => wv σ x fun x =>
    match P.underlying s, P.underlying d, x with
    | some (.pointer _), some .unsafePointer, .pointer p => smV P (Conv.unsafePointer s d (.pointer p)) .ptr h fun q h' => K (.pointer q) h'
    | some .unsafePointer, some (.pointer _), .pointer p => smV P (Conv.unsafePointer s d (.pointer p)) .ptr h fun q h' => K (.pointer q) h'
    | some (.slice e), some .string, .slice a len _ => match P.underlying e with
      | some (.int .u8) => btS h a len fun b => K (.string b) h
      | _ => False
    | some .string, some .string, .string b => K (.string b) h
    | _, _, _ => False
  | _ => genW P σ o h K
def opH (P : Program) (σ : AFr) (o : Oper) (h : Hp) (K : Value → Hp → Prop) : Prop :=
  match isReader P o.op with
  | true => opR P σ o h fun v => K v h
  | false => opW P σ o h K

/-- What an operation comes to. -/
def Goes (P : Program) (a : Act) (o : Oper) (h : Hp) (K : Value → Hp → Prop) : Prop :=
  ∀ w, w.heap = h →
    (∃ v w', ((execOp a.eval o).run P w = .ok (.value v) w' ∨ v = undef ∧ (execOp a.eval o).run P w = .ok .skip w') ∧ IO w w' ∧ K v w'.heap) ∨
    (∃ f args, (execOp a.eval o).run P w = .ok (.enter f args) w ∧ CallsH P f args h K) ∨
    (∃ l fn tmps assign body, (execOp a.eval o).run P w = .ok (.round l fn tmps assign body) w ∧
      RoundIn Fence.wide 0 P l fn tmps assign body w fun e w' => ∃ v, e = .returned v ∧ IO w w' ∧ K v w'.heap)

theorem Tells.goes {P : Program} {a : Act} {o : Oper} {h : Hp} {K : Value → Hp → Prop} (ht : Tells P a o h fun v => K v h) : Goes P a o h K := by
  obtain ⟨v, hK, hr⟩ := ht
  exact fun w hw => .inl ⟨v, w, .inl (hr w fun _ => hw ▸ Ext.refl _), IO.refl w, hw ▸ hK⟩

theorem genW_out {P : Program} {σ : AFr} {n : Nat} {a : Act} {o : Oper} {h : Hp} {K : Value → Hp → Prop} (hs : Says ds σ n a) (hk : genW P σ o h K) : Goes P a o h K := by
  unfold genW at hk
  split at hk
  · rename_i hb
    rw [Bool.and_eq_true] at hb
    intro w hw
    obtain ⟨r, w', hr, io, hK⟩ := wpS_run hk w hw
    rw [← execOp_congr hb.1 (knows_out hs hb.2)] at hr
    cases r with
    | value v => exact .inl ⟨v, w', .inl hr, io, hK⟩
    | skip => exact .inl ⟨undef, w', .inr ⟨rfl, hr⟩, io, hK⟩
    | _ => exact hK.elim
  · exact hk.elim

theorem evs_list {σ : AFr} {n : Nat} {a : Act} (hs : Says ds σ n a) : ∀ {xs : List Operand} {vs : List Value}, xs.mapM (ev σ) = some vs → xs.map a.eval = vs
  | [], vs, h => by simp at h; simp [h]
  | x :: xs, vs, h => by
    simp only [List.mapM_cons, Option.bind_eq_bind, Option.bind_eq_some_iff, Option.pure_def, Option.some.injEq] at h
    obtain ⟨v, hv, vs', hvs, rfl⟩ := h
    rw [List.map_cons, hs.eval hv, evs_list hs hvs]
theorem evs_out {σ : AFr} {n : Nat} {a : Act} (hs : Says ds σ n a) {xs : Array Operand} {vs : List Value} (h : evs σ xs = some vs) : xs.map a.eval = vs.toArray := by
  apply Array.ext'
  simp only [Array.toList_map]
  exact evs_list hs h

theorem entered_out {P : Program} {f : FuncId} (h : entered P f = true) (args : Array Value) (w : World) : (callFunc f args).run P w = .ok (.enter f args) w := by
  unfold entered at h
  split at h
  · rename_i fn hf
    rw [Bool.and_eq_true, Bool.not_eq_true'] at h
    have h1 : fn.name ≠ "runtime.NumGoroutine" := by simpa using h.1
    have h2 : fn.body ≠ none := by
      have := h.2
      cases hb : fn.body <;> simp_all
    simp [callFunc, hf, h1, h2]
  · cases h

theorem stO_goes {P : Program} {t : TypeId} {p : Addr} {h : Hp} {y : Value} {X : Prop} {i : TypeInfo} (hi : P.info? t = some i) (hsz : i.size = 1) (hk : stO h p y X) (w : World) (hw : w.heap = h) :
    (Instr.storeAt t (.pointer (some p)) y).run P w = .ok () (w.setCell p y) ∧ X := by
  obtain ⟨h1, h2, h3, h4, hX⟩ := stO_out hk
  refine ⟨?_, hX⟩
  have hc : y.cells = #[y] := by cases y <;> first | rfl | exact (h1 _ rfl).elim
  obtain ⟨u, hu⟩ := Option.isSome_iff_exists.1 h3
  have hcw : w.cell? p = some u := by rw [cell_eq, hw]; exact hu
  have hf : w.frozen? p = false := by rw [frozen_eq, hw]; exact h4
  have hst : (store p y).run P w = .ok () (w.setCell p y) := by
    unfold store
    cases y <;> first
      | (exact (h1 _ rfl).elim)
      | (exact (h2 _ rfl).elim)
      | simp only [Sem.run, hcw, hf, Bool.false_eq_true, if_false]
  have e0 : p.add 0 = p := rfl
  simp [Instr.storeAt, Instr.sureAddr, storeVar, hc, run_sizeOf hi, hsz, storeCells, e0, hst]


theorem cells_run {P : Program} : ∀ {vs : List Value} {h : Hp} {a : Addr} {i : Nat}, (∀ j, j < vs.length → hcell h (a.add (i + j)) = vs[j]?) →
    ∀ w, w.heap = h → ∀ acc, (loadCellsFrom a i vs.length acc).run P w = .ok (acc ++ vs.toArray) w
  | [], _, _, _, _, w, _, acc => by simp [loadCellsFrom]
  | v :: vs, h, a, i, hc, w, hw, acc => by
    have h0 : w.cell? (a.add i) = some v := by rw [cell_eq, hw]; exact hc 0 (by simp)
    have hr := cells_run (P := P) (vs := vs) (h := h) (a := a) (i := i + 1) (fun j hj => by
      have := hc (j + 1) (by simp; omega)
      rw [show i + 1 + j = i + (j + 1) by omega, this]; rfl) w hw (acc.push v)
    simp only [List.length_cons, loadCellsFrom, Sem.run_bind, run_load, h0, Result.andThen_ok, hr]
    congr 1
    apply Array.ext'
    simp

theorem srcCells_run {P : Program} {h : Hp} {n size : Nat} {x : Value} {K : List Value → Prop} (hx : ∀ s, x = .string s → n = s.size)
    (hk : srcCells h (n * size) x K) : ∃ vs, K vs ∧ ∀ w, w.heap = h → (Builtin.firstCells size n x).run P w = .ok vs.toArray w := by
  unfold srcCells at hk
  split at hk
  · obtain ⟨vs, hl, hc, hK⟩ := hk
    refine ⟨vs, hK, fun w hw => ?_⟩
    have := cells_run (P := P) (vs := vs) (h := h) (i := 0) (fun j hj => by rw [Nat.zero_add]; exact hc j (by omega)) w hw #[]
    rw [hl] at this
    simp only [Builtin.firstCells, loadCells, this]
    simp
  · exact ⟨[], hk, fun w _ => by simp [Builtin.firstCells]⟩
  · rename_i s
    refine ⟨_, hk, fun w _ => ?_⟩
    have := hx s rfl
    subst this
    simp only [Builtin.firstCells, Sem.run_pure, Result.ok.injEq, and_true]
    apply Array.ext'
    simp
  · exact hk.elim

theorem hcell_hset_isSome (h : Hp) (a b : Addr) (v : Value) : (hcell (hset h a v) b).isSome = (hcell h b).isSome := by
  unfold hcell hset
  rw [Array.getElem?_modify]
  by_cases e : a.block = b.block
  · rw [if_pos e]
    cases hb : h[b.block]? with
    | none => rfl
    | some o =>
      cases o <;> simp only [Option.map_some] <;> first | rfl | skip
      rename_i c el fr
      by_cases hsp : b.spot.isSome = true
      · simp [hsp]
      · by_cases hsa : a.spot.isSome = true
        · simp [hsp, hsa]
        · simp only [hsp, hsa, Bool.false_eq_true, if_false, Array.getElem?_setIfInBounds]
          split
          · rename_i e2; split
            · rename_i h3; rw [e2] at h3; simp [h3]
            · rename_i h3; rw [e2] at h3; simp [h3]
          · rfl
  · rw [if_neg e]
theorem hfrozen_hset (h : Hp) (a b : Addr) (v : Value) : hfrozen (hset h a v) b = hfrozen h b := by
  unfold hfrozen hset
  rw [Array.getElem?_modify]
  by_cases e : a.block = b.block
  · rw [if_pos e]
    cases hb : h[b.block]? with
    | none => rfl
    | some o => cases o <;> rfl
  · rw [if_neg e]

theorem oneCell_run {P : Program} {a : Addr} {v : Value} {w : World} (hv : oneCell v = true) (hc : (hcell w.heap a).isSome = true) (hf : hfrozen w.heap a = false) :
    (store a v).run P w = .ok () (w.setCell a v) := by
  obtain ⟨u, hu⟩ := Option.isSome_iff_exists.1 hc
  have hcw : w.cell? a = some u := hu
  have hfw : w.frozen? a = false := hf
  unfold store
  cases v <;> first
    | (simp [oneCell] at hv; done)
    | simp only [Sem.run, hcw, hfw, Bool.false_eq_true, if_false]

theorem storeCells_run {P : Program} {a : Addr} : ∀ {vs : List Value} {i : Nat} {w : World}, (∀ v ∈ vs, oneCell v = true) →
    (∀ j, j < vs.length → (hcell w.heap (a.add (i + j))).isSome = true ∧ hfrozen w.heap (a.add (i + j)) = false) →
    ∃ w', (storeCells a vs i).run P w = .ok () w' ∧ IO w w' ∧ w'.heap = hsets w.heap a vs i
  | [], i, w, _, _ => ⟨w, by simp [storeCells], IO.refl w, rfl⟩
  | v :: vs, i, w, hv, hc => by
    have h0 := hc 0 (by simp)
    have hr := oneCell_run (P := P) (a := a.add i) (w := w) (hv v (by simp)) h0.1 h0.2
    obtain ⟨w', hr', io, hh⟩ := storeCells_run (P := P) (a := a) (vs := vs) (i := i + 1) (w := w.setCell (a.add i) v) (fun u hu => hv u (by simp [hu])) (fun j hj => by
      have := hc (j + 1) (by simp; omega)
      rw [show i + 1 + j = i + (j + 1) by omega, set_eq, hcell_hset_isSome, hfrozen_hset]; exact this)
    refine ⟨w', ?_, (IO.set w (a.add i) v).trans io, hh⟩
    simp only [storeCells, Sem.run_bind, hr, Result.andThen_ok, hr']

theorem growBy_le (need : Nat) : ∀ (r c : Nat), c ≤ need + need / 4 + 512 → Builtin.growBy need r c ≤ need + need / 4 + 512
  | 0, c, h => h
  | r + 1, c, h => by
    unfold Builtin.growBy
    split
    · exact h
    · exact growBy_le need r _ (by omega)
theorem nextcap_le {need cap : Nat} (h : cap < need) : Builtin.nextslicecap need cap ≤ need + need / 4 + 512 := by
  unfold Builtin.nextslicecap
  split
  · omega
  · split
    · omega
    · exact growBy_le _ _ _ (by omega)

theorem srcLen_run {P : Program} {x : Value} {K : Nat → Prop} (hk : srcLen x K) : ∃ n, (∀ w, (Builtin.lenOf x).run P w = .ok n w) ∧ (∀ s, x = .string s → n = s.size) ∧ K n := by
  unfold srcLen at hk
  split at hk
  · exact ⟨_, fun w => by simp only [Builtin.lenOf, Sem.run_pure], fun s e => (by cases e), hk⟩
  · exact ⟨_, fun w => by simp only [Builtin.lenOf, Sem.run_pure], fun s e => (by cases e; rfl), hk⟩
  · exact hk.elim
theorem add_add (a : Addr) (m j : Nat) : (a.add m).add j = a.add (m + j) := by
  unfold Addr.add
  by_cases hj : j = 0
  · subst hj; simp
  · by_cases hm : m = 0
    · subst hm; simp
    · simp [hj, hm, Nat.add_assoc]

theorem notInt (d : TypeDesc) : (∀ k, d ≠ .int k) → (d matches .int _) = false := by
  intro hd
  cases d <;> first | rfl | exact (hd _ rfl).elim

theorem appS_run {P : Program} {t u e : TypeId} {d : TypeDesc} {i : TypeInfo} {z : Value} {base : Option Addr} {len cap : Nat} {x : Value} {h : Hp} {K : Value → Hp → Prop} {ty : TypeId}
    (ht : P.underlying t = some (.slice e)) (hu : P.underlying u = some d) (hd : ∀ k, d ≠ .int k) (hi : P.info? e = some i) (hz : i.zero = some z)
    (hk : appS e i.size i.bytes z.cells.toList base len cap x h fun s h' => K (.slice s.a s.len s.cap) h') (w : World) (hw : w.heap = h) :
    ∃ v w', (Builtin.append_ #[t, u] ty #[.slice base len cap, x]).run P w = .ok v w' ∧ IO w w' ∧ K v w'.heap := by
  obtain ⟨n, hn, hxs, hfit, hgrow⟩ := srcLen_run (P := P) hk
  have hmat := notInt d hd
  by_cases hc : len + n ≤ cap
  · obtain ⟨new, hK, hr⟩ := srcCells_run (P := P) (size := i.size) hxs (hfit hc)
    have hr := hr w hw
    cases base with
    | none =>
      obtain ⟨rfl, hK⟩ := hK
      refine ⟨_, w, ?_, IO.refl w, hw ▸ hK⟩
      simp [Builtin.append_, run_underlying ht, run_underlying hu, run_sizeOf hi, hmat, hn, hc, hr]
    | some a =>
      obtain ⟨h1, h2, hK⟩ := hK
      obtain ⟨w', hst, io, hh⟩ := storeCells_run (P := P) (a := a.add (len * i.size)) (vs := new) (i := 0) (w := w) h2 (fun j hj => by
        rw [hw, Nat.zero_add, add_add]
        exact h1 j hj)
      refine ⟨.slice (some a) (len + n) cap, w', ?_, io, ?_⟩
      · simp [Builtin.append_, run_underlying ht, run_underlying hu, run_sizeOf hi, hmat, hn, hc, hr, hst]
      · rw [hh, hw]; exact hK
  · obtain ⟨hb, ⟨hb0, hb1⟩, hk⟩ := hgrow (by omega)
    obtain ⟨new, hk, hr⟩ := srcCells_run (P := P) (size := i.size) hxs hk
    obtain ⟨old, hk, hr2⟩ := srcCells_run (P := P) (size := i.size) (n := len) (fun s e => by cases e) hk
    have hcap : ¬ (Builtin.nextslicecap (len + n) cap * i.bytes > 2 ^ 48) := by
      have h1 := nextcap_le (need := len + n) (cap := cap) (by omega)
      have h2 : Builtin.nextslicecap (len + n) cap * i.bytes ≤ ((len + n) + (len + n) / 4 + 512) * i.bytes := Nat.mul_le_mul_right _ h1
      have h3 : ((len + n) + (len + n) / 4 + 512) * i.bytes = (len + n) * i.bytes + (len + n) / 4 * i.bytes + 512 * i.bytes := by
        rw [Nat.add_mul, Nat.add_mul]
      have h4 : 4 * ((len + n) / 4 * i.bytes) ≤ (len + n) * i.bytes := by
        rw [← Nat.mul_assoc]; exact Nat.mul_le_mul_right _ (by omega)
      omega
    let w1 : World := { w with drawn := w.drawn + 1 }
    have hw1 : w1.heap = h := hw
    have hio : ∀ o : Obj, IO w { w1 with heap := w1.heap.push o } := fun o => (IO.drew w).trans (IO.push w1 o)
    let c := (Question.appendCap (len + n) cap e).cut (w.tape w.drawn (.appendCap (len + n) cap e))
    have hcc : len + n ≤ c := by
      show len + n ≤ len + n + _
      omega
    have hch : (choose (.appendCap (len + n) cap e)).run P w = .ok c w1 := rfl
    have hro := hr2 w1 hw1
    have hrn := hr w1 hw1
    have hinf : ∀ w, (typeInfo e).run P w = .ok i w := fun w => by simp [typeInfo, hi]
    have hze : ∀ w, (zeroValue e).run P w = .ok z w := fun w => by simp [zeroValue, hinf, hz]
    have hbz : i.bytes ≠ 0 := by omega
    refine ⟨.slice (some ⟨h.size, 0, none⟩) (len + n) c, { w1 with heap := w1.heap.push (.cells (old ++ new ++ (Builtin.zeroCells z.cells.toList.toArray (c - (len + n))).toList).toArray e) }, ?_, hio _, ?_⟩
    · simp only [Builtin.append_, List.getElem?_toArray, List.getElem?_cons_zero, List.getElem?_cons_succ, Sem.run_bind, run_underlying ht, Result.andThen_ok, run_sizeOf hi, run_underlying hu, hmat, Sem.run_pure,
        Bool.false_eq_true, if_false, hn, Nat.not_lt.2, if_neg hc, Bool.not_false, if_true, false_or, hinf, hbz, and_false, if_neg hcap, hch, run_askRoom, hro, hrn, hze]
      simp only [newRow, run_newObj, Sem.run_bind, Result.andThen_ok, Sem.run_pure, Array.toArray_toList, hw1, Result.ok.injEq, World.mk.injEq, and_true, true_and]
      congr 2
      apply Array.ext'
      simp
    · show K _ (w.heap.push _)
      rw [hw]; exact hk c hcc

theorem zeroCells_toList {z : Value} (n : Nat) : (Builtin.zeroCells z.cells.toList.toArray n).toList.toArray = Builtin.zeroCells z.cells n := by
  simp
theorem appZ_run {P : Program} {t u e : TypeId} {k0 k : IntKind} {i : TypeInfo} {z : Value} {base : Option Addr} {len cap : Nat} {l : Int} {h : Hp} {K : Value → Hp → Prop} {ty : TypeId}
    (ht : P.underlying t = some (.slice e)) (hu : P.underlying u = some (.int k0)) (hi : P.info? e = some i) (hz : i.zero = some z) (hzs : z.cells.size = i.size)
    (hk : appZ e i.size i.bytes z.cells.toList base len cap l h fun s h' => K (.slice s.a s.len s.cap) h') (w : World) (hw : w.heap = h) :
    ∃ v w', (Builtin.append_ #[t, u] ty #[.slice base len cap, .int k l]).run P w = .ok v w' ∧ IO w w' ∧ K v w'.heap := by
  obtain ⟨⟨h0, hb0, hlb⟩, hfit, hgrow⟩ := hk
  have hl : l ≤ 140737488355328 := by
    have : l * 1 ≤ l * (i.bytes : Int) := Int.mul_le_mul_of_nonneg_left (by omega) h0
    omega
  have wr : IntKind.i64.wrap l = l := by
    simp only [IntKind.wrap, IntKind.bits, IntKind.signed]
    simp; omega
  have hneg : ¬ l < 0 := by omega
  have hbig : ¬ (l * (i.bytes : Int) > 2 ^ 48) := by omega
  have hinf : ∀ w, (typeInfo e).run P w = .ok i w := fun w => by simp [typeInfo, hi]
  have hze : ∀ w, (zeroValue e).run P w = .ok z w := fun w => by simp [zeroValue, hinf, hz]
  have happ : ∀ w, (if l.toNat * i.size = 0 then pure #[] else do pure (Builtin.zeroCells (← zeroValue e).cells l.toNat) : Sem (Array Value)).run P w = .ok (Builtin.zeroCells z.cells l.toNat) w := by
    intro w
    by_cases hn : l.toNat * i.size = 0
    · rw [if_pos hn]
      have : Builtin.zeroCells z.cells l.toNat = #[] := by
        unfold Builtin.zeroCells
        rw [hzs, hn]; simp
      rw [this]; rfl
    · rw [if_neg hn]
      simp [hze]
  have hbz : i.bytes ≠ 0 := by omega
  by_cases hc : len + l.toNat ≤ cap
  · have hfit := hfit hc
    cases base with
    | none =>
      obtain ⟨hn, hK⟩ := hfit
      refine ⟨_, w, ?_, IO.refl w, hw ▸ hK⟩
      simp only [Builtin.append_, List.getElem?_toArray, List.getElem?_cons_zero, List.getElem?_cons_succ, Sem.run_bind, run_underlying ht, Result.andThen_ok, run_sizeOf hi, run_underlying hu, Sem.run_pure, asInt, asIntOf, wr, hneg, if_false, hinf, hbig,
        if_true, if_pos hc, Bool.not_true, Bool.false_eq_true, happ]
    | some a =>
      obtain ⟨h1, h2, hK⟩ := hfit
      obtain ⟨w', hst, io, hh⟩ := storeCells_run (P := P) (a := a.add (len * i.size)) (vs := (Builtin.zeroCells z.cells.toList.toArray l.toNat).toList) (i := 0) (w := w) h2 (fun j hj => by
        rw [hw, Nat.zero_add, add_add]
        exact h1 j hj)
      refine ⟨.slice (some a) (len + l.toNat) cap, w', ?_, io, by rw [hh, hw]; exact hK⟩
      rw [Array.toArray_toList] at hst
      simp only [Builtin.append_, List.getElem?_toArray, List.getElem?_cons_zero, List.getElem?_cons_succ, Sem.run_bind, run_underlying ht, Result.andThen_ok, run_sizeOf hi, run_underlying hu, Sem.run_pure, asInt, asIntOf, wr, hneg, if_false, hinf, hbig,
        if_true, if_pos hc, Bool.not_true, Bool.false_eq_true, happ, hst]
  · obtain ⟨hb, hb1, hk⟩ := hgrow (by omega)
    obtain ⟨old, hk, hr2⟩ := srcCells_run (P := P) (size := i.size) (n := len) (fun s e => by cases e) hk
    have hcap : ¬ (Builtin.nextslicecap (len + l.toNat) cap * i.bytes > 2 ^ 48) := by
      have h1 := nextcap_le (need := len + l.toNat) (cap := cap) (by omega)
      have h2 : Builtin.nextslicecap (len + l.toNat) cap * i.bytes ≤ ((len + l.toNat) + (len + l.toNat) / 4 + 512) * i.bytes := Nat.mul_le_mul_right _ h1
      have h3 : ((len + l.toNat) + (len + l.toNat) / 4 + 512) * i.bytes = (len + l.toNat) * i.bytes + (len + l.toNat) / 4 * i.bytes + 512 * i.bytes := by
        rw [Nat.add_mul, Nat.add_mul]
      have h4 : 4 * ((len + l.toNat) / 4 * i.bytes) ≤ (len + l.toNat) * i.bytes := by
        rw [← Nat.mul_assoc]; exact Nat.mul_le_mul_right _ (by omega)
      omega
    let w1 : World := { w with drawn := w.drawn + 1 }
    have hw1 : w1.heap = h := hw
    have hio : ∀ o : Obj, IO w { w1 with heap := w1.heap.push o } := fun o => (IO.drew w).trans (IO.push w1 o)
    let c := (Question.appendCap (len + l.toNat) cap e).cut (w.tape w.drawn (.appendCap (len + l.toNat) cap e))
    have hcc : len + l.toNat ≤ c := by
      show len + l.toNat ≤ len + l.toNat + _
      omega
    have hch : (choose (.appendCap (len + l.toNat) cap e)).run P w = .ok c w1 := rfl
    have hro := hr2 w1 hw1
    have hn64 : ¬ (((len + l.toNat : Nat) : Int) > IntKind.i64.max ∧ (True ∨ i.bytes = 0)) := by
      intro ⟨h1, _⟩
      have h2 : (9223372036854775807 : Int) < ((len + l.toNat : Nat) : Int) := h1
      have h3 : (len + l.toNat) * 1 ≤ (len + l.toNat) * i.bytes := Nat.mul_le_mul_left _ (by omega)
      omega
    refine ⟨.slice (some ⟨h.size, 0, none⟩) (len + l.toNat) c, { w1 with heap := w1.heap.push (.cells (old ++ (Builtin.zeroCells z.cells.toList.toArray l.toNat).toList ++ (Builtin.zeroCells z.cells.toList.toArray (c - (len + l.toNat))).toList).toArray e) }, ?_, hio _, ?_⟩
    · simp only [Builtin.append_, List.getElem?_toArray, List.getElem?_cons_zero, List.getElem?_cons_succ, Sem.run_bind, run_underlying ht, Result.andThen_ok, run_sizeOf hi, run_underlying hu, Sem.run_pure, asInt, asIntOf, wr, hneg, if_false, hinf, hbig,
        if_true, if_neg hc, Bool.not_true, Bool.false_eq_true, hn64, hcap, hch, run_askRoom, hro, happ, hze]
      simp only [newRow, run_newObj, Sem.run_bind, Result.andThen_ok, Sem.run_pure, Array.toArray_toList, hw1, Result.ok.injEq, World.mk.injEq, and_true, true_and]
      congr 2
      apply Array.ext'
      simp
    · show K _ (w.heap.push _)
      rw [hw]; exact hk c hcc

theorem mkS_run {P : Program} {t e : TypeId} {i : TypeInfo} {z : Value} {l c : Int} {k k' : IntKind} {h : Hp} {K : Value → Hp → Prop} (ht : P.underlying t = some (.slice e)) (hi : P.info? e = some i) (hz : i.zero = some z) (hzs : z.cells.size = i.size)
    (hk : mkS e i.size i.bytes z.cells.toList l c h fun s h' => K (.slice s.a s.len s.cap) h') (w : World) (hw : w.heap = h) :
    ∃ v w', (Instr.makeSlice t (.int k l) (.int k' c)).run P w = .ok v w' ∧ IO w w' ∧ K v w'.heap := by
  obtain ⟨⟨h0, h1⟩, ⟨hb, hm⟩, hK⟩ := hk
  have hc : c ≤ 140737488355328 := by
    have : c * 1 ≤ c * (i.bytes : Int) := Int.mul_le_mul_of_nonneg_left (by omega) (by omega)
    omega
  have wr : ∀ x : Int, 0 ≤ x → x ≤ 140737488355328 → IntKind.i64.wrap x = x := by
    intro x a b
    simp only [IntKind.wrap, IntKind.bits, IntKind.signed]
    simp; omega
  have hinf : ∀ w, (typeInfo e).run P w = .ok i w := fun w => by simp [typeInfo, hi]
  have hze : ∀ w, (zeroValue e).run P w = .ok z w := fun w => by simp [zeroValue, hinf, hz]
  have hbc : ¬ ((i.bytes : Int) * c > 2 ^ 48) := by rw [Int.mul_comm]; omega
  have e1 : (decide (c < 0) || decide ((i.bytes : Int) * c > 2 ^ 48)) = false := by
    rw [decide_eq_false (by omega), decide_eq_false hbc]; rfl
  refine ⟨_, { w with heap := w.heap.push (.cells ((Array.range (c.toNat * i.size)).map fun j => z.cells.toList.toArray[j % z.cells.toList.length]!) e) }, ?_, IO.push w _, by rw [← hw] at hK; exact hK⟩
  unfold Instr.makeSlice
  simp only [Sem.run_bind, run_underlying ht, Result.andThen_ok, asInt, asIntOf, Sem.run_pure, hinf, wr l h0 (by omega), wr c (by omega) hc]
  rw [if_neg (by
    simp only [Bool.or_eq_true, decide_eq_true_eq, not_or]
    exact ⟨⟨by simpa using ⟨by omega, by omega⟩, by omega⟩, by omega⟩)]
  simp only [Sem.run_bind, run_askRoom, Result.andThen_ok, run_sizeOf hi]
  by_cases hn : c.toNat * i.size = 0
  · rw [if_pos hn]
    simp only [Sem.run_pure, Result.andThen_ok, newRow, Sem.run_bind, run_newObj, hn]
    simp only [hw, Result.ok.injEq, World.mk.injEq, and_true, true_and]
    congr 2
    apply Array.ext <;> simp
  · rw [if_neg hn]
    simp only [Sem.run_bind, hze, Sem.run_pure, Result.andThen_ok, newRow, run_newObj]
    simp [hw]
theorem cpS_run {P : Program} {t e : TypeId} {i : TypeInfo} {base : Option Addr} {len cap : Nat} {x : Value} {h : Hp} {K : Value → Hp → Prop} {ts : Array TypeId} {ty : TypeId} (ht : P.underlying t = some (.slice e)) (hts : ts[0]? = some t) (hi : P.info? e = some i)
    (hk : cpS i.size base len x h fun n h' => K (.int .i64 n) h') (w : World) (hw : w.heap = h) :
    ∃ v w', (Builtin.copy_ ts ty #[.slice base len cap, x]).run P w = .ok v w' ∧ IO w w' ∧ K v w'.heap := by
  unfold cpS at hk
  split at hk
  · rename_i sb slen sc
    obtain ⟨cs, hk, hr⟩ := srcCells_run (P := P) (size := i.size) (fun s e => by cases e) hk
    have hr := hr w hw
    cases base with
    | none =>
      refine ⟨_, w, ?_, IO.refl w, hw ▸ hk⟩
      simp [Builtin.copy_, hts, run_underlying ht, run_sizeOf hi, Builtin.lenOf, hr, goInt]
    | some a =>
      obtain ⟨h1, h2, hK⟩ := hk
      obtain ⟨w', hst, io, hh⟩ := storeCells_run (P := P) (a := a) (vs := cs) (i := 0) (w := w) h2 (fun j hj => by
        rw [hw, Nat.zero_add]
        exact h1 j hj)
      refine ⟨_, w', ?_, io, by rw [hh, hw]; exact hK⟩
      simp [Builtin.copy_, hts, run_underlying ht, run_sizeOf hi, Builtin.lenOf, hr, goInt, hst]
  · exact hk.elim
def bytesBody (c : Value) (s : ByteArray) : Sem (ForInStep ByteArray) :=
  match c with
  | .int .u8 n => pure (ForInStep.yield (s.push (UInt8.ofNat n.toNat)))
  | _ => do
    stuck "bytesToString: byte expected"
    pure (ForInStep.yield s)
theorem bytes_loop {P : Program} {w : World} : ∀ (bs : List UInt8) (s : ByteArray), (forIn (bs.map fun b => Value.int .u8 b.toNat) s bytesBody).run P w = .ok (bs.foldl ByteArray.push s) w
  | [], s => by simp
  | b :: bs, s => by
    rw [List.map_cons, List.forIn_cons]
    simp only [Sem.run_bind, bytesBody, Sem.run_pure, Result.andThen_ok, List.foldl_cons, Int.toNat_natCast, UInt8.ofNat_toNat]
    exact bytes_loop bs _
theorem foldl_push (bs : List UInt8) : ∀ s : ByteArray, bs.foldl ByteArray.push s = ⟨s.data ++ bs.toArray⟩ := by
  induction bs with
  | nil => intro s; simp
  | cons b bs ih => intro s; rw [List.foldl_cons, ih]; simp [ByteArray.push]
theorem btS_run {P : Program} {h : Hp} {a : Option Addr} {len cap : Nat} {K : ByteArray → Prop} (hk : btS h a len K) : ∃ b, K b ∧ ∀ w, w.heap = h → (Conv.bytesToString (.slice a len cap)).run P w = .ok (.string b) w := by
  unfold btS at hk
  split at hk
  · exact ⟨_, hk, fun w _ => by simp [Conv.bytesToString]⟩
  · rename_i ad
    obtain ⟨bs, hl, hc, hK⟩ := hk
    refine ⟨_, hK, fun w hw => ?_⟩
    have hld : (loadCells ad len).run P w = .ok (bs.map fun b => Value.int .u8 b.toNat).toArray w := by
      have := cells_run (P := P) (vs := bs.map fun b => Value.int .u8 b.toNat) (h := h) (a := ad) (i := 0) (fun j hj => by
        rw [Nat.zero_add, hc j (by simpa [hl] using hj), List.getElem?_map]) w hw #[]
      simpa [loadCells, hl] using this
    unfold Conv.bytesToString
    simp only [Sem.run_bind, hld, Result.andThen_ok]
    have e := bytes_loop (P := P) (w := w) bs ByteArray.empty
    rw [foldl_push] at e
    have e2 : (forIn (bs.map fun b => Value.int .u8 b.toNat).toArray ByteArray.empty bytesBody).run P w = .ok ⟨ByteArray.empty.data ++ bs.toArray⟩ w := by rw [← e, ← Array.forIn_toList]
    refine Eq.trans (congrArg (fun r : Result ByteArray => r.andThen fun a w' => Sem.run P (pure (Value.string a)) w') e2) ?_
    simp

theorem takeRes_fun {shs : List Sh} {K : Value → Hp → Prop} {v : Value} {h : Hp} (hk : takeRes shs K v h) : K v h := by
  obtain ⟨s, rfl, hk⟩ := hk; exact hk

theorem opW_out {P : Program} {σ : AFr} {n : Nat} {a : Act} {o : Oper} {h : Hp} {K : Value → Hp → Prop} (hs : Says ds σ n a) (hk : opW P σ o h K) : Goes P a o h K := by
  unfold opW at hk
  split at hk
  · -- store
    rename_i t x y e
    have hk0 := hk
    replace hk := (wv_out hs hk).2
    replace hk := (wv_out hs hk).2
    split at hk
    · exact hk.elim
    · rename_i d s p hd hsh hx
      obtain ⟨i, hi, hsz, hk⟩ := szK_out hk
      obtain ⟨ad, rfl, hk⟩ := someA_of hk
      intro w hw
      obtain ⟨hr, hX⟩ := stO_goes (P := P) hi hsz hk w hw
      refine .inl ⟨undef, w.setCell ad (a.eval y), .inr ⟨rfl, ?_⟩, IO.set w _ _, by rw [set_eq, hw]; exact hX⟩
      simp only [execOp, e, hx, Sem.run_bind, hr, Result.andThen_ok, Sem.run_pure]
    · exact genW_out hs hk
  · -- call
    rename_i f args ats e
    replace hk := (wv_out hs hk).2
    split at hk
    · rename_i vs hvs
      have hargs := evs_out hs hvs
      unfold callK at hk
      split at hk
      · rename_i l first cap hf
        intro w hw
        obtain ⟨fn, tmps, as, bd, hy, hR⟩ := hk w hw
        refine .inr (.inr ⟨l, fn, tmps, as, bd, ?_, hR.mono fun e w' ⟨v, he, io, hK⟩ => ⟨v, he, io, takeRes_fun hK⟩⟩)
        simp only [execOp, e, resolve, hargs, hf, Deferred.ofValue, Sem.run_bind, Sem.run_pure, Result.andThen_ok, invoke]
        exact hy
      · rename_i g first cap hf
        split at hk
        · rename_i hent
          intro w hw
          refine .inr (.inl ⟨g, first ++ vs.toArray ++ cap, ?_, hk.mono fun v h' => takeRes_fun⟩)
          simp only [execOp, e, resolve, hargs, hf, Deferred.ofValue, Sem.run_bind, Sem.run_pure, Result.andThen_ok, invoke]
          exact entered_out hent _ w
        · intro w hw
          obtain ⟨nx, w', hr, io, hK⟩ := wpS_run hk w hw
          cases nx with
          | value v =>
            refine .inl ⟨v, w', .inl ?_, io, takeRes_fun hK⟩
            simp only [execOp, e, resolve, hargs, hf, Deferred.ofValue, Sem.run_bind, Sem.run_pure, Result.andThen_ok, invoke]
            exact hr
          | _ => exact hK.elim
      · exact hk.elim
    · exact hk.elim
  · -- invoke
    rename_i rx m args ats e
    replace hk := (wv_out hs hk).2
    split at hk
    · rename_i vs hvs
      have hargs := evs_out hs hvs
      obtain ⟨t, v, f, v', hrv, hm, hk⟩ := hk
      have hx : ∀ w, w.heap = h → (execOp a.eval o).run P w = (callFunc f (#[v'] ++ vs.toArray)).run P w := by
        intro w hw
        have h1 : (#[a.eval rx] ++ vs.toArray)[0]? = some (.iface t v) := by rw [hrv]; simp
        have h2 : (#[a.eval rx] ++ vs.toArray).extract 1 (#[a.eval rx] ++ vs.toArray).size = vs.toArray := by simp
        simp only [execOp, e, resolve, hargs, Sem.run_bind, Sem.run_pure, Result.andThen_ok, invoke, h1, h2, callMethod, run_program, hm w hw]
      have happ : #[v'] ++ vs.toArray ++ #[] = #[v'] ++ vs.toArray := by simp
      unfold callK at hk
      simp only [happ] at hk
      split at hk
      · rename_i hent
        intro w hw
        exact .inr (.inl ⟨f, _, (hx w hw).trans (entered_out hent _ w), hk.mono fun v h' => takeRes_fun⟩)
      · intro w hw
        obtain ⟨nx, w', hr, io, hK⟩ := wpS_run hk w hw
        cases nx with
        | value v => exact .inl ⟨v, w', .inl ((hx w hw).trans hr), io, takeRes_fun hK⟩
        | _ => exact hK.elim
    · exact hk.elim
  · -- typeAssert
    rename_i x xt at' ok e
    replace hk := (wv_out hs hk).2
    obtain ⟨s, hr, hK⟩ := hk
    intro w hw
    refine .inl ⟨_, w, .inl ?_, IO.refl w, hw ▸ hK⟩
    simp only [execOp, e, Sem.run_bind, hr w hw, Result.andThen_ok, Sem.run_pure]
  · -- append
    rename_i args ats e
    split at hk
    · rename_i base len cap x t u hvs hts
      split at hk
      · rename_i el k ht hu
        split at hk
        · rename_i i k' l hi
          split at hk
          · rename_i z hz
            split at hk
            · rename_i hb
              intro w hw
              obtain ⟨v, w', hr, io, hK⟩ := appZ_run (P := P) (ty := o.type) (k := k') ht hu hi hz (Nat.eq_of_beq_eq_true hb) hk w hw
              refine .inl ⟨v, w', .inl ?_, io, hK⟩
              have hargs := evs_out hs hvs
              have hats : ats = #[t, u] := by
                apply Array.ext'; exact hts
              subst hats
              simp only [execOp, e, resolve, hargs, Sem.run_bind, Sem.run_pure, Result.andThen_ok, invoke, builtin, hr]
            · exact hk.elim
          · exact hk.elim
        · exact hk.elim
      · exact hk.elim
      · rename_i el d hnd ht hd
        split at hk
        · rename_i i hi
          split at hk
          · rename_i z hz
            intro w hw
            obtain ⟨v, w', hr, io, hK⟩ := appS_run (P := P) (ty := o.type) ht hd hnd hi hz hk w hw
            refine .inl ⟨v, w', .inl ?_, io, hK⟩
            have hargs := evs_out hs hvs
            have hats : ats = #[t, u] := by
              apply Array.ext'; exact hts
            subst hats
            simp only [execOp, e, resolve, hargs, Sem.run_bind, Sem.run_pure, Result.andThen_ok, invoke, builtin, hr]
          · exact hk.elim
        · exact hk.elim
      · exact hk.elim
    · exact hk.elim
  · -- makeSlice
    rename_i t l c e
    replace hk := (wv_out hs hk).2
    replace hk := (wv_out hs hk).2
    split at hk
    · rename_i el k l' k' c' ht hl hc
      split at hk
      · rename_i i hi
        split at hk
        · rename_i z hz
          split at hk
          · rename_i hb
            intro w hw
            obtain ⟨v, w', hr, io, hK⟩ := mkS_run (P := P) (k := k) (k' := k') ht hi hz (Nat.eq_of_beq_eq_true hb) hk w hw
            refine .inl ⟨v, w', .inl ?_, io, hK⟩
            simp only [execOp, e, hl, hc, Sem.run_bind, hr, Result.andThen_ok, Sem.run_pure]
          · exact hk.elim
        · exact hk.elim
      · exact hk.elim
    · exact hk.elim
  · -- copy
    rename_i args ats e
    split at hk
    · rename_i base len cap x t ts hvs hts
      split at hk
      · rename_i el ht
        split at hk
        · rename_i i hi
          intro w hw
          obtain ⟨v, w', hr, io, hK⟩ := cpS_run (P := P) (cap := cap) (ts := ats) (ty := o.type) ht (by rw [← Array.getElem?_toList, hts]; rfl) hi hk w hw
          refine .inl ⟨v, w', .inl ?_, io, hK⟩
          have hargs := evs_out hs hvs
          simp only [execOp, e, resolve, hargs, Sem.run_bind, Sem.run_pure, Result.andThen_ok, invoke, builtin, hr]
        · exact hk.elim
      · exact hk.elim
    · exact hk.elim
  · -- where a slice begins
    rename_i args ats e
    split at hk
    · rename_i vs hvs
      have hargs := evs_out hs hvs
      intro w hw
      obtain ⟨v, w', hr, io, x, rfl, hK⟩ := wpS_run hk w hw
      refine .inl ⟨_, w', .inl ?_, io, hK⟩
      simp only [execOp, e, resolve, hargs, Sem.run_bind, Sem.run_pure, Result.andThen_ok, invoke, builtin, hr]
    · exact hk.elim
  · -- a text over bytes
    rename_i args ats e
    split at hk
    · rename_i vs hvs
      have hargs := evs_out hs hvs
      intro w hw
      obtain ⟨v, w', hr, io, x, rfl, hK⟩ := wpS_run hk w hw
      refine .inl ⟨_, w', .inl ?_, io, hK⟩
      simp only [execOp, e, resolve, hargs, Sem.run_bind, Sem.run_pure, Result.andThen_ok, invoke, builtin, hr]
    · exact hk.elim
  · -- clear
    rename_i args ats e
    split at hk
    · rename_i vs hvs
      have hargs := evs_out hs hvs
      intro w hw
      obtain ⟨v, w', hr, io, rfl, hK⟩ := wpS_run hk w hw
      refine .inl ⟨_, w', .inl ?_, io, hK⟩
      simp only [execOp, e, resolve, hargs, Sem.run_bind, Sem.run_pure, Result.andThen_ok, invoke, builtin, hr]
    · exact hk.elim
  · -- convert
    rename_i s d x e
    replace hk := (wv_out hs hk).2
    split at hk
    · rename_i el p h1 h2 hx
      intro w hw
      obtain ⟨v, w', hr, io, y, rfl, hK⟩ := wpS_run hk w hw
      refine .inl ⟨_, w', .inl ?_, io, hK⟩
      simp only [execOp, e, hx, convert, Sem.run_bind, run_underlying h1, run_underlying h2, Result.andThen_ok, hr, Sem.run_pure]
    · rename_i el p h1 h2 hx
      intro w hw
      obtain ⟨v, w', hr, io, y, rfl, hK⟩ := wpS_run hk w hw
      refine .inl ⟨_, w', .inl ?_, io, hK⟩
      simp only [execOp, e, hx, convert, Sem.run_bind, run_underlying h1, run_underlying h2, Result.andThen_ok, hr, Sem.run_pure]
    · rename_i el ad len cap h1 h2 hx
      split at hk
      · rename_i he
        obtain ⟨b, hK, hr⟩ := btS_run (P := P) (cap := cap) hk
        intro w hw
        refine .inl ⟨_, w, .inl ?_, IO.refl w, hw ▸ hK⟩
        have hr := hr w hw
        simp only [execOp, e, hx, convert, Sem.run_bind, run_underlying h1, run_underlying h2, run_underlying he, Result.andThen_ok, hr, Sem.run_pure]
      · exact hk.elim
    · rename_i b h1 h2 hx
      intro w hw
      refine .inl ⟨_, w, .inl ?_, IO.refl w, hw ▸ hk⟩
      simp only [execOp, e, hx, convert, Sem.run_bind, run_underlying h1, run_underlying h2, Result.andThen_ok, Sem.run_pure]
    · exact hk.elim
  · exact genW_out hs hk

theorem opH_out {P : Program} {σ : AFr} {n : Nat} {a : Act} {o : Oper} {h : Hp} {K : Value → Hp → Prop} (hs : Says ds σ n a) (hk : opH P σ o h K) : Goes P a o h K := by
  unfold opH at hk
  split at hk
  · exact (opR_out hs hk).goes
  · exact opW_out hs hk

theorem run_defer {P : Program} {a : Act} {o : Oper} {w : World} {c : Call} (hc : o.op = .defer c) {r : Result Next} (hr : (execOp a.eval o).run P w = r) : (∃ d w', r = .ok (.defer d) w') ∨ ∃ x w', r = .halt x w' := by
  subst hr
  unfold execOp
  rw [hc]
  simp only [Sem.run_bind, Sem.run_pure]
  cases (resolve a.eval c o.type).run P w with
  | ok d w' => exact .inl ⟨d, w', rfl⟩
  | halt x w' => exact .inr ⟨x, w', rfl⟩
theorem wpIn_of_value {P : Program} {a : Act} {o : Oper} {w w' : World} {v : Value} {next : Act → World → Prop} {Q : Exit → Act → World → Prop} (hr : (execOp a.eval o).run P w = .ok (.value v) w') (hn : next (a.put o.dst v) w') : o.wpIn (FF lr) 0 P a w next Q := by
  refine ⟨fun _ _ => trivial, ?_⟩
  rw [Oper.semAt_eq _ _ _ fun c hc => by rcases run_defer hc hr with ⟨d, w'', e⟩ | ⟨x, w'', e⟩ <;> (cases e), hr]
  exact hn
theorem wp_of_goes {P : Program} {a : Act} {o : Oper} {w : World} {K : Value → Hp → Prop} {next : Act → World → Prop} {Q : Exit → Act → World → Prop} (hg : Goes P a o w.heap K)
    (hn : ∀ v w', IO w w' → K v w'.heap → next (a.put o.dst v) w') : o.wpIn (FF lr) 0 P a w next Q := by
  have hnd : ∀ c, o.op ≠ .defer c := by
    intro c hc
    have hd := fun r => run_defer (P := P) (w := w) (a := a) hc (r := r)
    rcases hg w rfl with ⟨v, w', hr | ⟨_, hr⟩, _⟩ | ⟨f, args, hr, _⟩ | ⟨l, fn, tmps, as, bd, hr, _⟩ <;>
      rcases hd _ hr with ⟨d, w'', e⟩ | ⟨x, w'', e⟩ <;> cases e
  refine ⟨fun _ _ => trivial, ?_⟩
  rw [Oper.semAt_eq _ _ _ hnd]
  rcases hg w rfl with ⟨v, w', hr, io, hK⟩ | ⟨f, args, hr, hc⟩ | ⟨l, fn, tmps, as, bd, hr, hc⟩
  · rcases hr with hr | ⟨rfl, hr⟩
    · rw [hr]; exact hn _ _ io hK
    · rw [hr]; exact hn _ _ io hK
  · rw [hr]
    refine ⟨fun h => (by cases h), ?_⟩
    refine CallsIn.mono (F := FF lr) (show CallsIn (FF lr) _ P f args w _ from (callsIn_wide (n := 0)).2 (hc w rfl)) fun e w' he => ?_
    obtain ⟨v, rfl, io, hK⟩ := he
    exact hn _ _ io hK
  · rw [hr]
    refine ⟨fun h => (by cases h), RoundIn.mono (F := FF lr) (show RoundIn (FF lr) _ P l fn tmps as bd w _ from hc) fun e w' he => ?_⟩
    obtain ⟨v, rfl, io, hK⟩ := he
    exact hn _ _ io hK

/-! Regions in the order of the text. -/
def stepH (P : Program) (n : Nat) (o : Oper) (σ : AFr) (h : Hp) (K : AFr → Hp → Prop) : Prop :=
  match inFrame n o.dst with
  | true => opH P σ o h fun v h' => K (σ.put o.dst (some v)) h'
  | false => False
def gcnd (want t : Bool) (A B : Prop) : Prop :=
  match want with
  | true => cnd t A B
  | false => cnd t B A
def gslot (ops : Array Oper) (j : Nat) : Option Tmp := (ops[j]?).bind (·.dst)
def gd (ops : Array Oper) (j : Nat) (want : Bool) (σ : AFr) (yes no : AFr → Prop) : Prop :=
  match gslot ops j with
  | some g => match σ.get g with
    | some (.bool t) => gcnd want t (yes ((g, some (.bool want)) :: σ)) (no ((g, some (.bool !want)) :: σ))
    | some (.tuple _) => no σ
    | _ => False
  | none => False
def vcOps (P : Program) (n : Nat) (ops : Array Oper) : List Oper → AFr → Hp → (AFr → Hp → Prop) → Prop
  | [], σ, h, K => K σ h
  | o :: l, σ, h, K => match o.guard with
    | none => stepH P n o σ h fun σ' h' => vcOps P n ops l σ' h' K
    | some (j, want) => gd ops j want σ (fun σ => stepH P n o σ h fun σ' h' => vcOps P n ops l σ' h' K) (fun σ => vcOps P n ops l (σ.put o.dst (skipV n o.dst)) h K)

theorem gcnd_of {want t : Bool} {A B : Prop} (h : gcnd want t A B) : (t = want ∧ A) ∨ (t = (!want) ∧ B) := by
  cases want <;> cases t <;> first | exact .inl ⟨rfl, h⟩ | exact .inr ⟨rfl, h⟩
/-- The slots that no operation of the region writes are told as they were. -/
def SameO (ops : Array Oper) (σ σ' : AFr) : Prop := ∀ t, (∀ o ∈ ops.toList, o.dst ≠ some t) → σ'.get t = σ.get t
theorem SameO.refl (ops : Array Oper) (σ : AFr) : SameO ops σ σ := fun _ _ => rfl
theorem SameO.trans {ops : Array Oper} {a b c : AFr} (h : SameO ops a b) (k : SameO ops b c) : SameO ops a c := fun t ht => (k t ht).trans (h t ht)
theorem sameO_put {ops : Array Oper} {σ : AFr} {o : Oper} {v : Option Value} (ho : o ∈ ops.toList) : SameO ops σ (σ.put o.dst v) := by
  intro t ht
  cases hd : o.dst with
  | none => rfl
  | some d =>
    simp only [AFr.put, AFr.get_cons]
    rw [if_neg]
    intro e
    exact ht o ho (by rw [hd, e])
theorem sameO_slot {ops : Array Oper} {σ : AFr} {j g : Nat} {v : Option Value} (hg : gslot ops j = some g) : SameO ops σ ((g, v) :: σ) := by
  intro t ht
  rw [AFr.get_cons, if_neg]
  intro e
  unfold gslot at hg
  obtain ⟨o, ho, hd⟩ := Option.bind_eq_some_iff.1 hg
  exact ht o (Array.mem_toList_iff.2 (Array.mem_of_getElem? ho)) (by rw [hd, e])

theorem gd_out {ops : Array Oper} {j : Nat} {want : Bool} {σ : AFr} {n : Nat} {a : Act} {yes no : AFr → Prop} (hs : Says ds σ n a) (h : gd ops j want σ yes no) :
    (∃ σ', Says ds σ' n a ∧ SameO ops σ σ' ∧ yielded ops a.tmps j = some want ∧ yes σ') ∨ (∃ σ', Says ds σ' n a ∧ SameO ops σ σ' ∧ (yielded ops a.tmps j == some want) = false ∧ no σ') := by
  unfold gd at h
  split at h
  · rename_i g hg
    split at h
    · rename_i t ht
      have hgt := hs.get g _ ht
      have hg0 := hg
      unfold gslot at hg
      rcases gcnd_of h with ⟨e, h'⟩ | ⟨e, h'⟩
      · rw [e] at hgt
        exact .inl ⟨_, hs.note hgt, sameO_slot hg0, by simp [yielded, hg, hgt], h'⟩
      · rw [e] at hgt
        exact .inr ⟨_, hs.note hgt, sameO_slot hg0, by cases want <;> simp [yielded, hg, hgt], h'⟩
    · rename_i vs ht
      have hgt := hs.get g _ ht
      unfold gslot at hg
      exact .inr ⟨σ, hs, SameO.refl ops σ, by simp [yielded, hg, hgt], h⟩
    · exact h.elim
  · exact h.elim

theorem stepH_wp {P : Program} {n : Nat} {ops : Array Oper} {o : Oper} {σ : AFr} {w : World} {a : Act} {K : AFr → Hp → Prop} {next : Act → World → Prop} {Q : Exit → Act → World → Prop} (ho : o ∈ ops.toList) (hs : Says ds σ n a)
    (hk : stepH P n o σ w.heap K) (hn : ∀ σ' a' w', Says ds σ' n a' → SameO ops σ σ' → IO w w' → K σ' w'.heap → next a' w') : o.wpIn (FF lr) 0 P a w next Q := by
  unfold stepH at hk
  split at hk
  · rename_i hd
    exact wp_of_goes (opH_out hs hk) fun v w' io hK => hn _ _ _ (hs.put hd v) (sameO_put ho) io hK
  · exact hk.elim

theorem vcOps_wp {P : Program} {n : Nat} {ops : Array Oper} {Q : Exit → Act → World → Prop} {K : AFr → Hp → Prop} : ∀ (l : List Oper) (is : List Nat), is.map (fun i => ops[i]?) = l.map some →
    ∀ {σ : AFr} {a : Act} {w : World}, Says ds σ n a → vcOps P n ops l σ w.heap K → (∀ σ' a' w', Says ds σ' n a' → SameO ops σ σ' → IO w w' → K σ' w'.heap → Q .normal a' w') → wpOpsIn (FF lr) 0 P ops Q is a w
  | [], is, hi, σ, a, w, hs, hk, hQ => by
    cases is with
    | nil => exact hQ σ a w hs (SameO.refl ops σ) (IO.refl w) hk
    | cons _ _ => cases hi
  | o :: l, is, hi, σ, a, w, hs, hk, hQ => by
    cases is with
    | nil => cases hi
    | cons i is =>
      simp only [List.map_cons, List.cons.injEq] at hi
      obtain ⟨ho, hi⟩ := hi
      have hmem : o ∈ ops.toList := Array.mem_toList_iff.2 (Array.mem_of_getElem? ho)
      simp only [wpOpsIn, ho]
      simp only [vcOps] at hk
      have yes : ∀ {σ'}, Says ds σ' n a → SameO ops σ σ' → stepH P n o σ' w.heap (fun σ' h' => vcOps P n ops l σ' h' K) → o.wpIn (FF lr) 0 P a w (wpOpsIn (FF lr) 0 P ops Q is) Q := fun hs hm hk =>
        stepH_wp hmem hs hk fun σ' a' w' hs' hm' io hK => vcOps_wp l is hi hs' hK fun σ'' a'' w'' hs'' hm'' io' hK' => hQ _ _ _ hs'' ((hm.trans hm').trans hm'') (io.trans io') hK'
      split at hk
      · rename_i hg
        have : Region.wanted o (yielded ops a.tmps) = true := by simp [Region.wanted, hg]
        rw [if_pos this]
        exact yes hs (SameO.refl ops σ) hk
      · rename_i j want hg
        rcases gd_out hs hk with ⟨σ', hs', hm, hy, hk⟩ | ⟨σ', hs', hm, hy, hk⟩
        · have : Region.wanted o (yielded ops a.tmps) = true := by simp [Region.wanted, hg, hy]
          rw [if_pos this]
          exact yes hs' hm hk
        · have : ¬ Region.wanted o (yielded ops a.tmps) = true := by simp only [Region.wanted, hg, hy]; exact Bool.false_ne_true
          rw [if_neg this]
          exact ⟨fun _ _ => trivial, vcOps_wp l is hi (hs'.skip o.dst) hk fun σ'' a'' w'' hs'' hm'' io' hK' => hQ _ _ _ hs'' ((hm.trans (sameO_put hmem)).trans hm'') io' hK'⟩
end Go.Proofs.YtlkaipmhjgfkpaaDoorK
