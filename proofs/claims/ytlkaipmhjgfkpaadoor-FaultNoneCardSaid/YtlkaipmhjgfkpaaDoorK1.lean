/- A verification-condition layer of this session: from a function's code to a formula over heaps and typed values; its soundness over the kit's Calls. No condition. -/
import Derived.Calls
import Derived.KernelRfl
import Derived.Laws.World
import Derived.Laws.Sem
import Derived.RangeFuncCalls
namespace Go.Proofs.YtlkaipmhjgfkpaaDoorK
open Go

abbrev Hp := Array Obj

/-- The streams and the tape are as they were; so are the blocks of deferred calls. -/
structure IO (w w' : World) : Prop where
  os : w'.os = w.os
  tape : w'.tape = w.tape
  output : w'.output = w.output
  drawn : w.drawn ≤ w'.drawn
  size : w.heap.size ≤ w'.heap.size
  dfr : ∀ (k : Nat) (ds : Option (List Deferred)), w.heap[k]? = some (.deferred ds) → w'.heap[k]? = some (.deferred ds)
/-- The wide fence, in a round or in none. -/
abbrev FF (lr : Option Nat) : Fence := { fn := fun _ => True, depth := none, alive := false, round := lr }

theorem IO.refl (w : World) : IO w w := ⟨rfl, rfl, rfl, Nat.le_refl _, Nat.le_refl _, fun _ _ h => h⟩
theorem IO.trans {a b c : World} (h : IO a b) (k : IO b c) : IO a c :=
  ⟨k.os.trans h.os, k.tape.trans h.tape, k.output.trans h.output, Nat.le_trans h.drawn k.drawn, Nat.le_trans h.size k.size, fun i ds hi => k.dfr i ds (h.dfr i ds hi)⟩
theorem IO.push (w : World) (o : Obj) : IO w { w with heap := w.heap.push o } :=
  ⟨rfl, rfl, rfl, Nat.le_refl _, by simp, fun k ds hk => by
    have : k < w.heap.size := (Array.getElem?_eq_some_iff.1 hk).1
    show (w.heap.push o)[k]? = _
    rw [Array.getElem?_push, if_neg (by omega)]; exact hk⟩
theorem IO.drew (w : World) : IO w { w with drawn := w.drawn + 1 } := ⟨rfl, rfl, rfl, Nat.le_succ _, Nat.le_refl _, fun _ _ h => h⟩

def hcell (h : Hp) (a : Addr) : Option Value :=
  match h[a.block]? with
  | some (.cells c _ _) => if a.spot.isSome then none else c[a.off]?
  | _ => none
def hfrozen (h : Hp) (a : Addr) : Bool :=
  match h[a.block]? with
  | some (.cells _ _ (lo, hi)) => lo ≤ a.off && a.off < hi
  | _ => false
def hset (h : Hp) (a : Addr) (v : Value) : Hp :=
  h.modify a.block fun
    | .cells c elem frozen => .cells (if a.spot.isSome then c else c.setIfInBounds a.off v) elem frozen
    | o => o
theorem cell_eq (w : World) (a : Addr) : w.cell? a = hcell w.heap a := rfl
theorem frozen_eq (w : World) (a : Addr) : w.frozen? a = hfrozen w.heap a := rfl
theorem set_eq (w : World) (a : Addr) (v : Value) : (w.setCell a v).heap = hset w.heap a v := rfl
theorem IO.set (w : World) (a : Addr) (v : Value) : IO w (w.setCell a v) :=
  ⟨rfl, rfl, rfl, Nat.le_refl _, by rw [set_eq]; simp [hset], fun k ds hk => by
    rw [set_eq]; unfold hset
    rw [Array.getElem?_modify]
    by_cases e : a.block = k
    · rw [if_pos e, hk]; rfl
    · rw [if_neg e]; exact hk⟩

/-- h' is h with new blocks behind. -/
structure Ext (h h' : Hp) : Prop where
  size : h.size ≤ h'.size
  get : ∀ b, b < h.size → h'[b]? = h[b]?
theorem Ext.refl (h : Hp) : Ext h h := ⟨Nat.le_refl _, fun _ _ => rfl⟩
theorem Ext.trans {a b c : Hp} (h : Ext a b) (k : Ext b c) : Ext a c :=
  ⟨Nat.le_trans h.size k.size, fun i hi => (k.get i (Nat.lt_of_lt_of_le hi h.size)).trans (h.get i hi)⟩
theorem hcell_lt {h : Hp} {a : Addr} {v : Value} (e : hcell h a = some v) : a.block < h.size := by
  rcases Nat.lt_or_ge a.block h.size with hl | hl
  · exact hl
  · unfold hcell at e; rw [Array.getElem?_eq_none hl] at e; cases e
theorem Ext.cell {h h' : Hp} (e : Ext h h') {a : Addr} {v : Value} (hc : hcell h a = some v) : hcell h' a = some v := by
  have := hcell_lt hc
  unfold hcell at hc ⊢
  rw [e.get _ this]; exact hc

/-- Atoms: the shapes of values of one cell. -/
inductive At where
  | int (k : IntKind) | bool | str | ptr | sl | map | raw
structure Sl where
  a : Option Addr
  len : Nat
  cap : Nat
@[reducible] def At.T : At → Type
  | .int _ => Int | .bool => Bool | .str => ByteArray | .ptr => Option Addr | .sl => Sl | .map => Option Nat | .raw => Value
@[reducible] def At.v : (s : At) → s.T → Value
  | .int k, n => .int k n | .bool, b => .bool b | .str, s => .string s | .ptr, a => .pointer a
  | .sl, s => .slice s.a s.len s.cap | .map, r => .map r | .raw, v => v
@[reducible] def StA : List At → Type
  | [] => Unit
  | s :: l => s.T × StA l
@[reducible] def vsA : (l : List At) → StA l → List Value
  | [], _ => []
  | s :: l, x => s.v x.1 :: vsA l x.2
inductive Sh where
  | at (a : At)
  | agg (l : List At)
@[reducible] def Sh.T : Sh → Type
  | .at a => a.T
  | .agg l => StA l
@[reducible] def Sh.v : (s : Sh) → s.T → Value
  | .at a, x => a.v x
  | .agg l, x => .agg (vsA l x).toArray
@[reducible] def St : List Sh → Type
  | [] => Unit
  | s :: l => s.T × St l
@[reducible] def vsS : (l : List Sh) → St l → List Value
  | [], _ => []
  | s :: l, x => s.v x.1 :: vsS l x.2
/-- What a call hands back. -/
@[reducible] def mkRes : (l : List Sh) → St l → Value
  | [s], x => s.v x.1
  | l, x => .tuple (vsS l x).toArray

/-- The typed parts of a value that is written out. -/
@[reducible] def At.un : (s : At) → Value → (s.T → Prop) → Prop
  | .int k, .int k' n, K => match k, k' with
    | .i64, .i64 => K n | .i32, .i32 => K n | .i16, .i16 => K n | .i8, .i8 => K n
    | .u64, .u64 => K n | .u32, .u32 => K n | .u16, .u16 => K n | .u8, .u8 => K n
    | _, _ => False
  | .bool, .bool b, K => K b
  | .str, .string s, K => K s
  | .ptr, .pointer a, K => K a
  | .sl, .slice a l c, K => K ⟨a, l, c⟩
  | .map, .map r, K => K r
  | .raw, v, K => K v
  | _, _, _ => False
@[reducible] def unA : (l : List At) → List Value → (StA l → Prop) → Prop
  | [], [], K => K ()
  | s :: l, v :: vs, K => s.un v fun x => unA l vs fun y => K (x, y)
  | _, _, _ => False
@[reducible] def Sh.un : (s : Sh) → Value → (s.T → Prop) → Prop
  | .at a, v, K => a.un v K
  | .agg l, .agg cs, K => unA l cs.toList K
  | _, _, _ => False
@[reducible] def unS : (l : List Sh) → List Value → (St l → Prop) → Prop
  | [], [], K => K ()
  | s :: l, v :: vs, K => s.un v fun x => unS l vs fun y => K (x, y)
  | _, _, _ => False

theorem At.un_out {s : At} {v : Value} {K : s.T → Prop} (h : s.un v K) : ∃ x, v = s.v x ∧ K x := by
  cases s <;> cases v <;> simp only [At.un] at h <;> first
    | exact ⟨_, rfl, h⟩
    | (rename_i k k' n; cases k <;> cases k' <;> first | exact ⟨_, rfl, h⟩ | exact h.elim)
    | exact h.elim
theorem unA_out : ∀ {l : List At} {vs : List Value} {K : StA l → Prop}, unA l vs K → ∃ x, vs = vsA l x ∧ K x
  | [], [], _, h => ⟨(), rfl, h⟩
  | [], _ :: _, _, h => h.elim
  | _ :: _, [], _, h => h.elim
  | s :: l, v :: vs, K, h => by
    obtain ⟨x, rfl, h1⟩ := At.un_out (s := s) h
    obtain ⟨y, rfl, h2⟩ := unA_out (l := l) h1
    exact ⟨(x, y), rfl, h2⟩
theorem Sh.un_out {s : Sh} {v : Value} {K : s.T → Prop} (h : s.un v K) : ∃ x, v = s.v x ∧ K x := by
  cases s with
  | «at» a => exact At.un_out h
  | agg l =>
    cases v with
    | agg cs =>
      obtain ⟨x, e, h⟩ := unA_out h
      exact ⟨x, by simp only [Sh.v, ← e], h⟩
    | _ => exact h.elim
theorem unS_out : ∀ {l : List Sh} {vs : List Value} {K : St l → Prop}, unS l vs K → ∃ x, vs = vsS l x ∧ K x
  | [], [], _, h => ⟨(), rfl, h⟩
  | [], _ :: _, _, h => h.elim
  | _ :: _, [], _, h => h.elim
  | s :: l, v :: vs, K, h => by
    obtain ⟨x, rfl, h1⟩ := Sh.un_out (s := s) h
    obtain ⟨y, rfl, h2⟩ := unS_out (l := l) h1
    exact ⟨(x, y), rfl, h2⟩

/-- A call, over heaps. -/
def CallsH (P : Program) (f : FuncId) (args : Array Value) (h : Hp) (R : Value → Hp → Prop) : Prop :=
  ∀ w, w.heap = h → Calls P f args w fun e w' => ∃ v, e = .returned v ∧ IO w w' ∧ R v w'.heap

theorem CallsH.mono {P : Program} {f : FuncId} {args : Array Value} {h : Hp} {R R' : Value → Hp → Prop} (hc : CallsH P f args h R) (hr : ∀ v h', R v h' → R' v h') :
    CallsH P f args h R' :=
  fun w hw => (hc w hw).mono fun _ _ ⟨v, e, io, r⟩ => ⟨v, e, io, hr v _ r⟩

/-! The parts of the formulas. -/
def someA {α : Type} : Option α → (α → Prop) → Prop
  | some a, K => K a
  | none, _ => False
def cnd : Bool → Prop → Prop → Prop
  | true, A, _ => A
  | false, _, B => B
def ldA (s : At) (h : Hp) (a : Addr) (K : s.T → Prop) : Prop := ∃ x : s.T, hcell h a = some (s.v x) ∧ K x
def ldAs : (l : List At) → Hp → Addr → Nat → (StA l → Prop) → Prop
  | [], _, _, _, K => K ()
  | s :: l, h, a, i, K => ldA s h (a.add i) fun x => ldAs l h a (i + 1) fun y => K (x, y)
def stC (h : Hp) (a : Addr) (X : Prop) : Prop := (hcell h a).isSome = true ∧ hfrozen h a = false ∧ X
def stO (h : Hp) (a : Addr) (v : Value) (X : Prop) : Prop :=
  match v with
  | .agg _ => False
  | .tuple _ => False
  | .bool _ => stC h a X | .int _ _ => stC h a X | .float _ _ => stC h a X | .complex _ _ _ => stC h a X | .string _ => stC h a X
  | .pointer _ => stC h a X | .slice _ _ _ => stC h a X | .map _ => stC h a X | .chan _ => stC h a X | .func _ _ _ => stC h a X
  | .nilFunc => stC h a X | .iface _ _ => stC h a X | .nilIface => stC h a X
def nilChk (v : Value) (K : Value → Prop) : Prop :=
  match v with
  | .pointer p => someA p fun a => K (.pointer (some a))
  | .func (.func f) a b => K (.func (.func f) a b)
  | .iface t x => K (.iface t x)
  | _ => False
def idxS (a : Option Addr) (len : Nat) (i : Int) (size : Nat) (K : Addr → Prop) : Prop :=
  (0 ≤ i ∧ i < (len : Int)) ∧ someA a fun p => K (p.add (i.toNat * size))
def idxStr (s : ByteArray) (i : Int) (K : Int → Prop) : Prop :=
  0 ≤ i ∧ ∃ b, s[i.toNat]? = some b ∧ K b.toNat
def entered (P : Program) (f : FuncId) : Bool :=
  match P.funcs[f]? with
  | some fn => !(fn.name == "runtime.NumGoroutine") && fn.body.isSome
  | none => false

/-- Two pointers, neither of them the literal nil: of one block, or one is nil. -/
def eqPA (p q : Option Addr) (K : Bool → Prop) : Prop :=
  match p, q with
  | none, q => K q.isNone
  | some _, none => K false
  | some a, some b => a.block = b.block ∧ K (a == b)
def funNil (v : Value) (K : Bool → Prop) : Prop :=
  match v with
  | .nilFunc => K true
  | .func _ _ _ => K false
  | _ => False
theorem cnd_of {t : Bool} {A B : Prop} (h : cnd t A B) : (t = true ∧ A) ∨ (t = false ∧ B) := by
  cases t
  · exact .inr ⟨rfl, h⟩
  · exact .inl ⟨rfl, h⟩
theorem someA_of {α : Type} {o : Option α} {K : α → Prop} (h : someA o K) : ∃ a, o = some a ∧ K a := by
  cases o with
  | none => exact h.elim
  | some a => exact ⟨a, rfl, h⟩

def hshape (h : Hp) (r : Nat) : Option (TypeId × Nat) :=
  match h[r]? with
  | some (.cells c elem _) => some (elem, c.size)
  | _ => none
def hfreeze (h : Hp) (a : Addr) (n : Nat) : Hp :=
  match n with
  | 0 => h
  | n + 1 => h.modify a.block fun
    | .cells c elem (lo, hi) => .cells c elem (if lo == hi then (a.off, a.off + (n + 1)) else (min lo a.off, max hi (a.off + (n + 1))))
    | o => o
theorem freeze_eq (w : World) (a : Addr) (n : Nat) : (w.freeze a n).heap = hfreeze w.heap a n := by
  cases n with
  | zero => rfl
  | succ n => simp only [World.freeze, hfreeze]; rfl
theorem IO.freeze (w : World) (a : Addr) (n : Nat) : IO w (w.freeze a n) := by
  cases n with
  | zero => exact IO.refl w
  | succ n =>
    refine ⟨rfl, rfl, rfl, Nat.le_refl _, by rw [freeze_eq]; simp [hfreeze], fun k ds hk => ?_⟩
    rw [freeze_eq]; unfold hfreeze
    simp only
    rw [Array.getElem?_modify]
    by_cases e : a.block = k
    · rw [if_pos e, hk]; rfl
    · rw [if_neg e]; exact hk

/-! What a computation of the machine comes to, over heaps. -/
def wpS (P : Program) {α : Type} : Sem α → Hp → (α → Hp → Prop) → Prop
  | .pure a, h, K => K a h
  | .load _ a k, h, K => ∃ v, hcell h a = some v ∧ wpS P (k v) h K
  | .store _ a v k, h, K => stO h a v (wpS P k (hset h a v) K)
  | .new o k, h, K => wpS P (k h.size) (h.push o) K
  | .choose _ k, h, K => ∀ n, wpS P (k n) h K
  | .program k, h, K => wpS P (k P) h K
  | .mark _ k, h, K => wpS P k h K
  | .shape r k, h, K => wpS P (k (hshape h r)) h K
  | .freeze a n k, h, K => wpS P k (hfreeze h a n) K
  | .frozen a k, h, K => wpS P (k (hfrozen h a)) h K
  | .getObj r k, h, K => ∃ o, h[r]? = some o ∧ hshape h r = none ∧ wpS P (k o) h K
  | _, _, _ => False
theorem wpS.mono {P : Program} {α : Type} {s : Sem α} : ∀ {h : Hp} {K K' : α → Hp → Prop}, wpS P s h K → (∀ a h', K a h' → K' a h') → wpS P s h K' := by
  induction s with
  | pure a => intro h K K' hk hm; exact hm _ _ hk
  | load m a k ih => intro h K K' hk hm; obtain ⟨v, h1, h2⟩ := hk; exact ⟨v, h1, ih v h2 hm⟩
  | store m a v k ih =>
    intro h K K' hk hm
    cases v <;> first
      | exact hk.elim
      | exact ⟨hk.1, hk.2.1, ih hk.2.2 hm⟩
  | new o k ih => intro h K K' hk hm; exact ih _ hk hm
  | choose q k ih => intro h K K' hk hm; exact fun n => ih n (hk n) hm
  | program k ih => intro h K K' hk hm; exact ih _ hk hm
  | mark m k ih => intro h K K' hk hm; exact ih hk hm
  | shape r k ih => intro h K K' hk hm; exact ih _ hk hm
  | freeze a n k ih => intro h K K' hk hm; exact ih hk hm
  | frozen a k ih => intro h K K' hk hm; exact ih _ hk hm
  | getObj r k ih => intro h K K' hk hm; obtain ⟨o, h1, h2, h3⟩ := hk; exact ⟨o, h1, h2, ih o h3 hm⟩
  | _ => intro h K K' hk; exact hk.elim
theorem wpS_bind {P : Program} {α β : Type} {s : Sem α} {f : α → Sem β} : ∀ {h : Hp} {K : β → Hp → Prop}, wpS P s h (fun a h' => wpS P (f a) h' K) → wpS P (s >>= f) h K := by
  show ∀ {h : Hp} {K : β → Hp → Prop}, wpS P s h (fun a h' => wpS P (f a) h' K) → wpS P (s.bind f) h K
  induction s with
  | pure a => intro h K hk; exact hk
  | load m a k ih => intro h K hk; obtain ⟨v, h1, h2⟩ := hk; exact ⟨v, h1, ih v h2⟩
  | store m a v k ih =>
    intro h K hk
    cases v <;> first
      | exact hk.elim
      | exact ⟨hk.1, hk.2.1, ih hk.2.2⟩
  | new o k ih => intro h K hk; exact ih _ hk
  | choose q k ih => intro h K hk; exact fun n => ih n (hk n)
  | program k ih => intro h K hk; exact ih _ hk
  | mark m k ih => intro h K hk; exact ih hk
  | shape r k ih => intro h K hk; exact ih _ hk
  | freeze a n k ih => intro h K hk; exact ih hk
  | frozen a k ih => intro h K hk; exact ih _ hk
  | getObj r k ih => intro h K hk; obtain ⟨o, h1, h2, h3⟩ := hk; exact ⟨o, h1, h2, ih o h3⟩
  | _ => intro h K hk; exact hk.elim
def wpR (P : Program) {α : Type} : Sem α → (α → Prop) → Prop
  | .pure a, K => K a
  | .program k, K => wpR P (k P) K
  | _, _ => False

theorem stO_out {h : Hp} {a : Addr} {v : Value} {X : Prop} (hs : stO h a v X) :
    (∀ cs, v ≠ .agg cs) ∧ (∀ cs, v ≠ .tuple cs) ∧ (hcell h a).isSome = true ∧ hfrozen h a = false ∧ X := by
  cases v <;> simp only [stO, stC] at hs <;> first
    | exact hs.elim
    | exact ⟨fun _ e => (by cases e), fun _ e => (by cases e), hs.1, hs.2.1, hs.2.2⟩

theorem wpS_run {P : Program} {α : Type} {s : Sem α} : ∀ {h : Hp} {K : α → Hp → Prop}, wpS P s h K → ∀ w, w.heap = h →
    ∃ a w', s.run P w = .ok a w' ∧ IO w w' ∧ K a w'.heap := by
  induction s with
  | pure a => intro h K hk w hw; exact ⟨a, w, rfl, IO.refl w, hw ▸ hk⟩
  | load m a k ih =>
    intro h K hk w hw
    obtain ⟨v, hv, hk⟩ := hk
    obtain ⟨r, w', hr, io, hK⟩ := ih v hk w hw
    refine ⟨r, w', ?_, io, hK⟩
    have : w.cell? a = some v := by rw [cell_eq, hw]; exact hv
    simp only [Sem.run, this]; exact hr
  | store m a v k ih =>
    intro h K hk w hw
    obtain ⟨h1, h2, h3, h4, hk⟩ := stO_out hk
    obtain ⟨r, w', hr, io, hK⟩ := ih hk (w.setCell a v) (by rw [set_eq, hw])
    refine ⟨r, w', ?_, ((IO.set w a v).trans io), hK⟩
    obtain ⟨u, hu⟩ := Option.isSome_iff_exists.1 h3
    have hc : w.cell? a = some u := by rw [cell_eq, hw]; exact hu
    have hf : w.frozen? a = false := by rw [frozen_eq, hw]; exact h4
    cases v <;> first
      | (exact (h1 _ rfl).elim)
      | (exact (h2 _ rfl).elim)
      | (simp only [Sem.run, hc, hf, Bool.false_eq_true, if_false]; exact hr)
  | new o k ih =>
    intro h K hk w hw
    obtain ⟨r, w', hr, io, hK⟩ := ih h.size hk { w with heap := w.heap.push o } (by simp [hw])
    refine ⟨r, w', ?_, ((IO.push w o).trans io), hK⟩
    simp only [Sem.run, hw] at hr ⊢; exact hr
  | choose q k ih =>
    intro h K hk w hw
    by_cases hf : q.forced = true
    · obtain ⟨r, w', hr, io, hK⟩ := ih 0 (hk 0) w hw
      exact ⟨r, w', by simp only [Sem.run, hf, if_true]; exact hr, io, hK⟩
    · obtain ⟨r, w', hr, io, hK⟩ := ih (q.cut (w.tape w.drawn q)) (hk _) { w with drawn := w.drawn + 1 } hw
      exact ⟨r, w', by simp only [Sem.run, hf]; exact hr, ((IO.drew w).trans io), hK⟩
  | program k ih =>
    intro h K hk w hw
    obtain ⟨r, w', hr, io, hK⟩ := ih P hk w hw
    exact ⟨r, w', hr, io, hK⟩
  | mark m k ih =>
    intro h K hk w hw
    obtain ⟨r, w', hr, io, hK⟩ := ih hk w hw
    exact ⟨r, w', hr, io, hK⟩
  | shape r k ih =>
    intro h K hk w hw
    obtain ⟨r', w', hr, io, hK⟩ := ih (hshape h r) hk w hw
    refine ⟨r', w', ?_, io, hK⟩
    have : w.shape? r = hshape h r := by rw [← hw]; rfl
    simp only [Sem.run, this]; exact hr
  | freeze a n k ih =>
    intro h K hk w hw
    obtain ⟨r', w', hr, io, hK⟩ := ih hk (w.freeze a n) (by rw [freeze_eq, hw])
    exact ⟨r', w', hr, (IO.freeze w a n).trans io, hK⟩
  | frozen a k ih =>
    intro h K hk w hw
    obtain ⟨r', w', hr, io, hK⟩ := ih (hfrozen h a) hk w hw
    refine ⟨r', w', ?_, io, hK⟩
    have : w.frozen? a = hfrozen h a := by rw [← hw]; rfl
    simp only [Sem.run, this]; exact hr
  | getObj r k ih =>
    intro h K hk w hw
    obtain ⟨o, ho, hs, hk⟩ := hk
    obtain ⟨r', w', hr, io, hK⟩ := ih o hk w hw
    refine ⟨r', w', ?_, io, hK⟩
    have hw' : w.heap[r]? = some o := by rw [hw]; exact ho
    unfold hshape at hs
    rw [ho] at hs
    cases o <;> first
      | (simp at hs; done)
      | (simp only [Sem.run, hw']; exact hr)
  | _ => intro h K hk; exact hk.elim

theorem wpR_run {P : Program} {α : Type} {s : Sem α} : ∀ {K : α → Prop}, wpR P s K → 
    ∃ a, (∀ w, s.run P w = .ok a w) ∧ K a := by
  induction s with
  | pure a => intro K hk; exact ⟨a, fun w => rfl, hk⟩
  | program k ih =>
    intro K hk
    obtain ⟨r, hr, hK⟩ := ih P hk
    exact ⟨r, fun w => hr w, hK⟩
  | _ => intro K hk; exact hk.elim
end Go.Proofs.YtlkaipmhjgfkpaaDoorK
