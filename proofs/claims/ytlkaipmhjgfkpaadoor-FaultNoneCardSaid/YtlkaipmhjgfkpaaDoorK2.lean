/- The second part of the layer: frames, operations, regions. No condition. -/
import Derived.Test.YtlkaipmhjgfkpaaDoorK1
namespace Go.Proofs.YtlkaipmhjgfkpaaDoorK
open Go
set_option linter.unusedSimpArgs false
set_option linter.unusedVariables false

/-! Frames: what is known of the temporaries. -/
abbrev AFr := List (Nat × Option Value)
def AFr.get : AFr → Nat → Option Value
  | [], _ => none
  | (u, v) :: r, t => match Nat.beq u t with
    | true => v
    | false => AFr.get r t
def AFr.put (σ : AFr) (d : Option Tmp) (v : Option Value) : AFr :=
  match d with
  | some d => (d, v) :: σ
  | none => σ
def ev (σ : AFr) : Operand → Option Value
  | .tmp t => σ.get t
  | .const v => some v
  | .global g => some (.pointer (some ⟨g, 0, none⟩))
  | .func f => some (.func (.func f) #[] #[])
def ev! (σ : AFr) (x : Operand) : Value := (ev σ x).getD undef
def wv (σ : AFr) (x : Operand) (K : Value → Prop) : Prop :=
  match ev σ x with
  | some v => K v
  | none => False
def knows (σ : AFr) (xs : Array Operand) : Bool := xs.toList.all fun x => (ev σ x).isSome

/-- The frame says the truth of an activation. -/
structure Says (ds : List Deferred) (σ : AFr) (n : Nat) (a : Act) : Prop where
  defers : a.defers = ds
  size : a.tmps.size = n
  get : ∀ t v, σ.get t = some v → a.tmps[t]? = some v

variable {ds : List Deferred}
theorem Says.eval {σ : AFr} {n : Nat} {a : Act} (h : Says ds σ n a) {x : Operand} {v : Value} (e : ev σ x = some v) : a.eval x = v := by
  cases x with
  | tmp t =>
    have := h.get t v e
    show a.tmps.getD t undef = v
    rw [Array.getD_eq_getD_getElem?, this]; rfl
  | const c => simp only [ev, Option.some.injEq] at e; exact e
  | global g => simp only [ev, Option.some.injEq] at e; exact e
  | func f => simp only [ev, Option.some.injEq] at e; exact e
theorem wv_out {σ : AFr} {n : Nat} {a : Act} (hs : Says ds σ n a) {x : Operand} {K : Value → Prop} (h : wv σ x K) : ev σ x = some (a.eval x) ∧ K (a.eval x) := by
  unfold wv at h
  split at h
  · rename_i v e
    rw [hs.eval e]; exact ⟨e, h⟩
  · exact h.elim

theorem AFr.get_cons (u : Nat) (v : Option Value) (r : AFr) (t : Nat) : AFr.get ((u, v) :: r) t = if u = t then v else AFr.get r t := by
  simp only [AFr.get]
  split
  · rename_i h; rw [if_pos (Nat.eq_of_beq_eq_true h)]
  · rename_i h; rw [if_neg (Nat.ne_of_beq_eq_false h)]

def inFrame (n : Nat) : Option Tmp → Bool
  | some d => Nat.blt d n
  | none => true
theorem Says.put {σ : AFr} {n : Nat} {a : Act} (h : Says ds σ n a) {d : Option Tmp} (hd : inFrame n d = true) (v : Value) : Says ds (σ.put d (some v)) n (a.put d v) := by
  cases d with
  | none => exact h
  | some d =>
    have hd' : d < n := by simpa [inFrame, Nat.blt_eq] using hd
    refine ⟨h.defers, by simp [Act.put, h.size], fun t u e => ?_⟩
    simp only [AFr.put, AFr.get_cons] at e
    simp only [Act.put, Array.getElem?_setIfInBounds]
    by_cases hdt : d = t
    · rw [if_pos hdt] at e
      rw [if_pos hdt, if_pos (by rw [h.size]; exact hd')]; exact e
    · rw [if_neg hdt] at e
      rw [if_neg hdt]; exact h.get t u e
theorem Says.drop {σ : AFr} {n : Nat} {a : Act} (h : Says ds σ n a) {d : Option Tmp} (v : Value) : Says ds (σ.put d none) n (a.put d v) := by
  cases d with
  | none => exact h
  | some d =>
    refine ⟨h.defers, by simp [Act.put, h.size], fun t u e => ?_⟩
    simp only [AFr.put, AFr.get_cons] at e
    simp only [Act.put, Array.getElem?_setIfInBounds]
    by_cases hdt : d = t
    · rw [if_pos hdt] at e; cases e
    · rw [if_neg hdt] at e
      rw [if_neg hdt]; exact h.get t u e
/-- The slot of an operation that is passed over. -/
def skipV (n : Nat) (d : Option Tmp) : Option Value :=
  match inFrame n d with
  | true => some undef
  | false => none
theorem Says.skip {σ : AFr} {n : Nat} {a : Act} (h : Says ds σ n a) (d : Option Tmp) : Says ds (σ.put d (skipV n d)) n (a.put d undef) := by
  unfold skipV
  split
  · rename_i hd; exact h.put hd undef
  · exact h.drop undef
theorem Says.note {σ : AFr} {n : Nat} {a : Act} (h : Says ds σ n a) {t : Nat} {v : Value} (e : a.tmps[t]? = some v) : Says ds ((t, some v) :: σ) n a := by
  refine ⟨h.defers, h.size, fun u w e' => ?_⟩
  rw [AFr.get_cons] at e'
  by_cases htu : t = u
  · rw [if_pos htu] at e'; subst htu; rw [e, e']
  · rw [if_neg htu] at e'; exact h.get u w e'

/-! Types' shapes. -/
def atOf : Option TypeDesc → At
  | some (.int k) => .int k
  | some .bool => .bool
  | some .string => .str
  | some (.pointer _) => .ptr
  | some .unsafePointer => .ptr
  | some (.slice _) => .sl
  | some (.map _ _) => .map
  | _ => .raw
def flat (P : Program) : Nat → TypeId → List At
  | 0, _ => []
  | d + 1, t => match P.underlying t with
    | some (.struct fs) => fs.toList.flatMap fun f => flat P d f.type
    | some (.array n e) => (List.replicate n (flat P d e)).flatten
    | x => [atOf x]
def shOf (P : Program) (t : TypeId) : Sh :=
  match P.underlying t with
  | some (.struct fs) => .agg (fs.toList.flatMap fun f => flat P 16 f.type)
  | some (.array n e) => .agg (List.replicate n (flat P 16 e)).flatten
  | d => .at (atOf d)
def rsh (P : Program) (t : TypeId) : List Sh :=
  match P.underlying t with
  | some (.tuple ts) => ts.toList.map (shOf P)
  | _ => [shOf P t]

/-! Operations that only read. -/
def ldH (P : Program) (t : TypeId) (h : Hp) (a : Addr) (K : Value → Prop) : Prop :=
  match P.underlying t, shOf P t with
  | none, _ => False
  | some _, .at s => ldA s h a fun x => K (s.v x)
  | some _, .agg l => match P.info? t with
    | some i => match Nat.beq i.size l.length with
      | true => ldAs l h a 0 fun x => K (.agg (vsA l x).toArray)
      | false => False
    | none => False
def szK (P : Program) (e : TypeId) (K : Nat → Prop) : Prop :=
  match P.info? e with
  | some i => K i.size
  | none => False
def quoK (k : IntKind) (op : BinOp) (a b : Int) (K : Value → Prop) : Prop :=
  b ≠ 0 ∧ K (.int k (match op with | .quo => k.wrap (a.tdiv b) | _ => a.tmod b))
def shK (k : IntKind) (op : BinOp) (a b : Int) (K : Value → Prop) : Prop :=
  0 ≤ b ∧ K (.int k (match op with | .shl => k.wrap (a * 2 ^ min b.toNat k.bits) | _ => a.fdiv (2 ^ min b.toNat k.bits)))
def catK (a b : ByteArray) (K : Value → Prop) : Prop :=
  a.size + b.size ≤ 9223372036854775807 ∧ K (.string (a ++ b))
def ifcNil (v : Value) (K : Bool → Prop) : Prop :=
  match v with
  | .nilIface => K true
  | .iface _ _ => K false
  | _ => False
/-- Two interface values, neither of them nil. -/
def ifcEq (P : Program) (t : TypeId) (vx vy : Value) (K : Bool → Prop) : Prop :=
  ∃ tx x ty y b, vx = .iface tx x ∧ vy = .iface ty y ∧ (∀ w, (Op.equal t (.iface tx x) (.iface ty y)).run P w = .ok b w) ∧ K b
def slcS (a : Option Addr) (len cap : Nat) (lo hi : Option Int) (size : Nat) (K : Option Addr → Nat → Nat → Prop) : Prop :=
  (0 ≤ hi.getD len ∧ hi.getD len ≤ (cap : Int)) ∧ (0 ≤ lo.getD 0 ∧ lo.getD 0 ≤ hi.getD len) ∧
    K (if cap = (lo.getD 0).toNat then a else a.map (·.add ((lo.getD 0).toNat * size))) ((hi.getD len).toNat - (lo.getD 0).toNat) (cap - (lo.getD 0).toNat)
def slcStr (s : ByteArray) (lo hi : Option Int) (K : ByteArray → Prop) : Prop :=
  (0 ≤ hi.getD s.size ∧ hi.getD s.size ≤ (s.size : Int)) ∧ (0 ≤ lo.getD 0 ∧ lo.getD 0 ≤ hi.getD s.size) ∧ K (s.extract (lo.getD 0).toNat (hi.getD s.size).toNat)
def slc3 (a : Option Addr) (len cap : Nat) (lo : Option Int) (hi mx : Int) (size : Nat) (K : Option Addr → Nat → Nat → Prop) : Prop :=
  (0 ≤ mx ∧ mx ≤ (cap : Int)) ∧ (0 ≤ hi ∧ hi ≤ mx) ∧ (0 ≤ lo.getD 0 ∧ lo.getD 0 ≤ hi) ∧
    K (if mx.toNat = (lo.getD 0).toNat then a else a.map (·.add ((lo.getD 0).toNat * size))) (hi.toNat - (lo.getD 0).toNat) (mx.toNat - (lo.getD 0).toNat)
def idxAr (s : At) (cs : List Value) (n : Nat) (i : Int) (K : s.T → Prop) : Prop := (0 ≤ i ∧ i < (n : Int)) ∧ ∃ x : s.T, cs[i.toNat]? = some (s.v x) ∧ K x
def idxAg (l : List At) (cs : List Value) (n : Nat) (i : Int) (K : StA l → Prop) : Prop := (0 ≤ i ∧ i < (n : Int)) ∧ ∃ x : StA l, (cs.drop (i.toNat * l.length)).take l.length = vsA l x ∧ K x
/-- A value of one cell, and that cell. -/
def oneA (v : Value) (K : Value → Prop) : Prop :=
  match v with
  | .agg cs => match cs.toList with
    | [c] => K c
    | _ => False
  | .tuple _ => False
  | .bool b => K (.bool b) | .int k n => K (.int k n) | .float k n => K (.float k n) | .complex k a b => K (.complex k a b) | .string s => K (.string s)
  | .pointer p => K (.pointer p) | .slice a l c => K (.slice a l c) | .map r => K (.map r) | .chan r => K (.chan r) | .func f a b => K (.func f a b)
  | .nilFunc => K .nilFunc | .iface t x => K (.iface t x) | .nilIface => K .nilIface
def placeOf (P : Program) (t : TypeId) (i : Nat) : Option (Nat × Nat) :=
  match P.underlying t with
  | some (.struct fs) => match fs[i]? with
    | some f => match P.info? f.type with
      | some j => some (f.offset, j.size)
      | none => none
    | none => none
  | some (.array _ e) => match P.info? e with
    | some j => some (i * j.size, j.size)
    | none => none
  | _ => none
def setL (cells : List Value) (o : Nat) : List Value → List Value
  | [] => cells
  | v :: vs => setL (cells.set o v) (o + 1) vs
def bld (place : Nat → Option (Nat × Nat)) : List Value → List (Nat × Value) → (List Value → Prop) → Prop
  | cells, [], K => K cells
  | cells, (i, v) :: ps, K => match place i with
    | some (off, 1) => oneA v fun c => match Nat.blt off cells.length with
      | true => bld place (cells.set off c) ps K
      | false => False
    | some (off, sz) => match v with
      | .agg cs => match Nat.beq cs.size sz && Nat.ble (off + sz) cells.length with
        | true => bld place (setL cells off cs.toList) ps K
        | false => False
      | _ => False
    | none => False
def evP (σ : AFr) : List (Nat × Operand) → Option (List (Nat × Value))
  | [] => some []
  | (i, x) :: l => match ev σ x, evP σ l with
    | some v, some r => some ((i, v) :: r)
    | _, _ => none
/-- Equality of two structs of numbers, truths and texts, cell by cell. -/
def eqV1 (d : Option TypeDesc) (v u : Value) (K : Bool → Prop) : Prop :=
  match d, v, u with
  | some (.int _), .int k a, .int k' b => match k, k' with
    | .i64, .i64 => K (a == b) | .i32, .i32 => K (a == b) | .i16, .i16 => K (a == b) | .i8, .i8 => K (a == b)
    | .u64, .u64 => K (a == b) | .u32, .u32 => K (a == b) | .u16, .u16 => K (a == b) | .u8, .u8 => K (a == b)
    | _, _ => False
  | some .bool, .bool a, .bool b => K (a == b)
  | some .string, .string a, .string b => K (a == b)
  | _, _, _ => False
def eqF (P : Program) : List Field → Nat → List Value → List Value → (Bool → Prop) → Prop
  | [], _, [], [], K => K true
  | f :: fs, i, v :: vs, u :: us, K => match Nat.beq f.offset i && f.name != "_" with
    | true => eqV1 (P.underlying f.type) v u fun b => eqF P fs (i + 1) vs us fun c => K (b && c)
    | false => False
  | _, _, _, _, _ => False
def eqS (P : Program) (t : TypeId) (fs : Array Field) (xs ys : Array Value) (K : Bool → Prop) : Prop :=
  match !P.stoodInHeld t && !P.eqGuardType P.depth t with
  | true => eqF P fs.toList 0 xs.toList ys.toList K
  | false => False
def evI (σ : AFr) : Option Operand → Option (Option Int)
  | none => some none
  | some x => match ev σ x with
    | some (.int _ n) => some (some n)
    | _ => none

/-- The operations that are carried out as the machine does, on the operands' values alone. -/
def plainOp : Op → Bool
  | .move _ | .assign _ | .alloc _ | .box .. | .build .. | .buildSlice .. | .store .. | .binOp .. | .unOp .. | .convert .. | .makeInterface .. | .makeFunc ..
  | .makeSlice .. | .slice .. | .fieldAddr .. | .field .. | .indexAddr .. | .index .. | .typeAssert .. | .extract .. => true
  | .call { callee := .builtin _, .. } => true
  | _ => false
def optK (o : Option Value) (K : Value → Prop) : Prop :=
  match o with
  | some v => K v
  | none => False
def pickB : Bool → Bool → Bool → Bool
  | true, x, _ => x
  | false, _, y => y
def pickK (t : Bool) (x y : Option Value) (K : Value → Prop) : Prop :=
  match x, y with
  | some (.bool x), some (.bool y) => K (.bool (pickB t x y))
  | x, y => cnd t (optK x K) (optK y K)
def genR (P : Program) (σ : AFr) (o : Oper) (K : Value → Prop) : Prop :=
  match plainOp o.op && knows σ o.op.operands with
  | true => wpR P (execOp (ev! σ) o) fun
    | .value v => K v
    | _ => False
  | false => False
def opR (P : Program) (σ : AFr) (o : Oper) (h : Hp) (K : Value → Prop) : Prop :=
  match o.op with
  | .load t x => wv σ x fun
    | .pointer p => someA p fun a => ldH P t h a K
    | _ => False
  | .nilCheck x => wv σ x fun v => nilChk v K
  | .pick c x y => wv σ c fun
    | .bool t => pickK t (ev σ x) (ev σ y) K
    | _ => False
  | .indexAddr t x i => wv σ x fun x => wv σ i fun i =>
    match P.underlying t, x, i with
    | some (.slice e), .slice a len _, .int _ i => szK P e fun sz => idxS a len i sz fun p => K (.pointer (some p))
    | some (.array n e), .pointer p, .int _ i => someA p fun a => szK P e fun sz => idxS (some a) n i sz fun p => K (.pointer (some p))
    | _, _, _ => False
  | .fieldAddr t x f => wv σ x fun
    | .pointer p => someA p fun a => wpR P (Instr.fieldAt t (.pointer (some a)) f) K
    | _ => False
  | .build t ps => match evP σ ps.toList, P.info? t with
    | some vs, some i => match i.zero, P.underlying t with
      | some z, some (.struct fs) => match fs.toList.all fun f => (P.info? f.type).isSome with
        | true => bld (placeOf P t) z.cells.toList vs fun cs => K (.agg cs.toArray)
        | false => False
      | some z, some (.array _ e) => match (P.info? e).isSome with
        | true => bld (placeOf P t) z.cells.toList vs fun cs => K (.agg cs.toArray)
        | false => False
      | _, _ => False
    | _, _ => False
  | .index t x i => wv σ x fun x => wv σ i fun i =>
    match P.underlying t, x, i with
    | some .string, .string s, .int _ i => idxStr s i fun n => K (.int .u8 n)
    | some (.array n e), .agg cs, .int _ i => match P.underlying e, shOf P e with
      | some _, .at s => szK P e fun sz => match Nat.beq sz 1 with
        | true => idxAr s cs.toList n i fun x => K (s.v x)
        | false => False
      | some _, .agg l => szK P e fun sz => match Nat.beq sz l.length with
        | true => idxAg l cs.toList n i fun x => K (.agg (vsA l x).toArray)
        | false => False
      | _, _ => False
    | _, _, _ => genR P σ o K
  | .slice t x lo hi none => wv σ x fun x =>
    match P.underlying t, x, evI σ lo, evI σ hi with
    | some (.slice e), .slice a len cap, some lo, some hi => szK P e fun sz => slcS a len cap lo hi sz fun a l c => K (.slice a l c)
    | some .string, .string s, some lo, some hi => slcStr s lo hi fun s => K (.string s)
    | some (.array n e), .pointer p, some lo, some hi => someA p fun a => szK P e fun sz => slcS (some a) n n lo hi sz fun a l c => K (.slice a l c)
    | _, _, _, _ => False
  | .slice t x lo (some hi) (some mx) => wv σ x fun x => wv σ hi fun hi => wv σ mx fun mx =>
    match P.underlying t, x, evI σ lo, hi, mx with
    | some (.slice e), .slice a len cap, some lo, .int _ hi, .int _ mx => szK P e fun sz => slc3 a len cap lo hi mx sz fun a l c => K (.slice a l c)
    | _, _, _, _, _ => False
  | .binOp op t x y _ => wv σ x fun vx => wv σ y fun vy =>
    match P.underlying t with
    | some (.interface _) => match y, vy, op with
      | .const _, .nilIface, .eql => ifcNil vx fun b => K (.bool b)
      | .const _, .nilIface, .neq => ifcNil vx fun b => K (.bool !b)
      | _, _, .eql => ifcEq P t vx vy fun b => K (.bool b)
      | _, _, .neq => ifcEq P t vx vy fun b => K (.bool !b)
      | _, _, _ => False
    | some (.struct fs) => match vx, vy, op with
      | .agg xs, .agg ys, .eql => eqS P t fs xs ys fun b => K (.bool b)
      | .agg xs, .agg ys, .neq => eqS P t fs xs ys fun b => K (.bool !b)
      | _, _, _ => False
    | some (.pointer el) => match y, vx, vy, op with
      | .const _, .pointer p, .pointer none, .eql => K (.bool p.isNone)
      | .const _, .pointer p, .pointer none, .neq => K (.bool !p.isNone)
      | _, .pointer p, .pointer q, .eql => szK P el fun sz => match Nat.beq sz 0 with
        | true => False
        | false => eqPA p q fun b => K (.bool b)
      | _, .pointer p, .pointer q, .neq => szK P el fun sz => match Nat.beq sz 0 with
        | true => False
        | false => eqPA p q fun b => K (.bool !b)
      | _, _, _, _ => False
    | some (.func ..) => match y, vy, op with
      | .const _, .nilFunc, .eql => funNil vx fun b => K (.bool b)
      | .const _, .nilFunc, .neq => funNil vx fun b => K (.bool !b)
      | _, _, _ => False
    | some (.slice _) => match y, vx, vy, op with
      | .const _, .slice a _ _, .slice none _ _, .eql => K (.bool a.isNone)
      | .const _, .slice a _ _, .slice none _ _, .neq => K (.bool !a.isNone)
      | _, _, _, _ => False
    | some .string => match vx, vy, op with
      | .string a, .string b, .add => catK a b K
      | _, _, _ => genR P σ o K
    | some (.int .i64) => match vx, vy, op with
      | .int .i64 a, .int .i64 b, .quo => quoK .i64 .quo a b K
      | .int .i64 a, .int .i64 b, .rem => quoK .i64 .rem a b K
      | .int .i64 a, .int _ b, .shl => shK .i64 .shl a b K
      | .int .i64 a, .int _ b, .shr => shK .i64 .shr a b K
      | _, _, _ => genR P σ o K
    | some (.int .u64) => match vx, vy, op with
      | .int .u64 a, .int .u64 b, .quo => quoK .u64 .quo a b K
      | .int .u64 a, .int .u64 b, .rem => quoK .u64 .rem a b K
      | .int .u64 a, .int _ b, .shl => shK .u64 .shl a b K
      | .int .u64 a, .int _ b, .shr => shK .u64 .shr a b K
      | _, _, _ => genR P σ o K
    | _ => genR P σ o K
  | _ => genR P σ o K

theorem map_congr_ops {ρ ρ' : Operand → Value} {xs : Array Operand} (h : ∀ x ∈ xs.toList, ρ x = ρ' x) : xs.map ρ = xs.map ρ' := by
  apply Array.ext'
  simp only [Array.toList_map]
  exact List.map_congr_left h
theorem opt_congr {ρ ρ' : Operand → Value} {x : Option Operand} (h : ∀ y ∈ x.toArray.toList, ρ y = ρ' y) : x.map ρ = x.map ρ' := by
  cases x with
  | none => rfl
  | some y => simp only [Option.map_some]; rw [h y (by simp)]

theorem parts_congr {ρ ρ' : Operand → Value} {ps : Array (Nat × Operand)} (h : ∀ x ∈ (ps.toList.map (·.2)), ρ x = ρ' x) :
    (ps.map fun (i, x) => (i, ρ x)) = (ps.map fun (i, x) => (i, ρ' x)) := by
  apply Array.ext'
  simp only [Array.toList_map]
  refine List.map_congr_left fun p hp => ?_
  obtain ⟨i, x⟩ := p
  simp only [Prod.mk.injEq, true_and]
  exact h x (List.mem_map.2 ⟨(i, x), hp, rfl⟩)

theorem execOp_congr {ρ ρ' : Operand → Value} {o : Oper} (hp : plainOp o.op = true) (h : ∀ x ∈ o.op.operands.toList, ρ x = ρ' x) : execOp ρ o = execOp ρ' o := by
  obtain ⟨dst, op, type, pos, after, guard⟩ := o
  cases op with
  | call c =>
    obtain ⟨callee, args, ts⟩ := c
    cases callee with
    | builtin b =>
      have e : args.map ρ = args.map ρ' := map_congr_ops fun x hx => h x (by simpa [Op.operands, Call.operands] using hx)
      simp only [execOp, resolve, e]
    | _ => simp [plainOp] at hp
  | build t ps => 
    have e := parts_congr (ρ := ρ) (ρ' := ρ') (ps := ps) fun x hx => h x (by simpa [Op.operands] using hx)
    simp only [execOp, e]
  | buildSlice t len ps =>
    have e := parts_congr (ρ := ρ) (ρ' := ρ') (ps := ps) fun x hx => h x (by simpa [Op.operands] using hx)
    simp only [execOp, e]
  | makeFunc fn a b =>
    have e1 : a.map ρ = a.map ρ' := map_congr_ops fun x hx => h x (by simp only [Op.operands, Array.toList_append, List.mem_append]; exact .inl hx)
    have e2 : b.map ρ = b.map ρ' := map_congr_ops fun x hx => h x (by simp only [Op.operands, Array.toList_append, List.mem_append]; exact .inr hx)
    simp only [execOp, e1, e2]
  | slice t x l u m =>
    have e0 : ρ x = ρ' x := h x (by simp [Op.operands])
    have e1 : l.map ρ = l.map ρ' := opt_congr fun y hy => h y (by simp only [Op.operands, Array.toList_append, List.mem_append]; exact .inl (.inl (.inr hy)))
    have e2 : u.map ρ = u.map ρ' := opt_congr fun y hy => h y (by simp only [Op.operands, Array.toList_append, List.mem_append]; exact .inl (.inr hy))
    have e3 : m.map ρ = m.map ρ' := opt_congr fun y hy => h y (by simp only [Op.operands, Array.toList_append, List.mem_append]; exact .inr hy)
    simp only [execOp, e0, e1, e2, e3]
  | move x => have e0 : ρ x = ρ' x := h x (by simp [Op.operands]); simp only [execOp, e0]
  | assign x => have e0 : ρ x = ρ' x := h x (by simp [Op.operands]); simp only [execOp, e0]
  | alloc t => simp only [execOp]
  | box t x => have e0 : ρ x = ρ' x := h x (by simp [Op.operands]); simp only [execOp, e0]
  | store t x y => have e0 : ρ x = ρ' x := h x (by simp [Op.operands]); have e1 : ρ y = ρ' y := h y (by simp [Op.operands]); simp only [execOp, e0, e1]
  | binOp op t x y yt => have e0 : ρ x = ρ' x := h x (by simp [Op.operands]); have e1 : ρ y = ρ' y := h y (by simp [Op.operands]); simp only [execOp, e0, e1]
  | unOp op t x => have e0 : ρ x = ρ' x := h x (by simp [Op.operands]); simp only [execOp, e0]
  | convert s d x => have e0 : ρ x = ρ' x := h x (by simp [Op.operands]); simp only [execOp, e0]
  | makeInterface t x => have e0 : ρ x = ρ' x := h x (by simp [Op.operands]); simp only [execOp, e0]
  | makeSlice t x y => have e0 : ρ x = ρ' x := h x (by simp [Op.operands]); have e1 : ρ y = ρ' y := h y (by simp [Op.operands]); simp only [execOp, e0, e1]
  | fieldAddr s x f => have e0 : ρ x = ρ' x := h x (by simp [Op.operands]); simp only [execOp, e0]
  | field s x f => have e0 : ρ x = ρ' x := h x (by simp [Op.operands]); simp only [execOp, e0]
  | indexAddr t x y => have e0 : ρ x = ρ' x := h x (by simp [Op.operands]); have e1 : ρ y = ρ' y := h y (by simp [Op.operands]); simp only [execOp, e0, e1]
  | index t x y => have e0 : ρ x = ρ' x := h x (by simp [Op.operands]); have e1 : ρ y = ρ' y := h y (by simp [Op.operands]); simp only [execOp, e0, e1]
  | typeAssert x t u c => have e0 : ρ x = ρ' x := h x (by simp [Op.operands]); simp only [execOp, e0]
  | extract x i => have e0 : ρ x = ρ' x := h x (by simp [Op.operands]); simp only [execOp, e0]
  | _ => simp [plainOp] at hp

theorem knows_out {σ : AFr} {n : Nat} {a : Act} (hs : Says ds σ n a) {xs : Array Operand} (h : knows σ xs = true) : ∀ x ∈ xs.toList, a.eval x = ev! σ x := by
  intro x hx
  obtain ⟨v, e⟩ := Option.isSome_iff_exists.1 (List.all_eq_true.1 h x hx)
  rw [hs.eval e, ev!, e]; rfl

theorem genR_out {P : Program} {σ : AFr} {n : Nat} {a : Act} {o : Oper} {K : Value → Prop} (hs : Says ds σ n a) (hk : genR P σ o K) :
    ∃ v, K v ∧ ∀ w, (execOp a.eval o).run P w = .ok (.value v) w := by
  unfold genR at hk
  split at hk
  · rename_i hb
    rw [Bool.and_eq_true] at hb
    obtain ⟨r, hr, hK⟩ := wpR_run hk
    rw [← execOp_congr hb.1 (knows_out hs hb.2)] at hr
    cases r with
    | value v => exact ⟨v, hK, hr⟩
    | _ => exact hK.elim
  · exact hk.elim

theorem run_underlying {P : Program} {t : TypeId} {d : TypeDesc} (h : P.underlying t = some d) (w : World) : (underlying t).run P w = .ok d w := by
  simp [underlying, program, Sem.run, h]
theorem run_sizeOf {P : Program} {t : TypeId} {i : TypeInfo} (h : P.info? t = some i) (w : World) : (sizeOf t).run P w = .ok i.size w := by
  simp [sizeOf, typeInfo, program, Sem.run, h]
theorem shOf_at {P : Program} {t : TypeId} {s : At} (h : shOf P t = .at s) (w : World) (hd : ∃ d, P.underlying t = some d) : (isAgg t).run P w = .ok false w := by
  obtain ⟨d, hd⟩ := hd
  simp only [shOf, hd] at h
  cases d <;> simp_all [isAgg, run_underlying hd]
theorem shOf_agg {P : Program} {t : TypeId} {l : List At} (h : shOf P t = .agg l) (w : World) : (isAgg t).run P w = .ok true w := by
  unfold shOf at h
  split at h
  · rename_i e; simp [isAgg, run_underlying e]
  · rename_i e; simp [isAgg, run_underlying e]
  · cases h

theorem ldAs_out {P : Program} : ∀ {l : List At} {h : Hp} {a : Addr} {i : Nat} {K : StA l → Prop}, ldAs l h a i K →
    ∃ x, K x ∧ ∀ w, (∀ i v, hcell h (a.add i) = some v → hcell w.heap (a.add i) = some v) → ∀ acc, (loadCellsFrom a i l.length acc).run P w = .ok (acc ++ (vsA l x).toArray) w
  | [], _, _, _, _, hk => ⟨(), hk, fun w _ acc => by simp [loadCellsFrom, vsA]⟩
  | s :: l, h, a, i, K, hk => by
    obtain ⟨x, hx, hk⟩ := hk
    obtain ⟨y, hK, hr⟩ := ldAs_out (P := P) (l := l) hk
    refine ⟨(x, y), hK, fun w hw acc => ?_⟩
    have hc : w.cell? (a.add i) = some (s.v x) := by rw [cell_eq]; exact hw _ _ hx
    have := hr w hw (acc.push (s.v x))
    simp only [List.length_cons, loadCellsFrom, load, Sem.run_bind, Sem.run, hc, Result.andThen_ok, this]
    congr 1
    apply Array.ext'
    simp
end Go.Proofs.YtlkaipmhjgfkpaaDoorK
