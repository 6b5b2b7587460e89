/- The twelfth part of the layer: blocks of the call's own; what lasts through which step; iterators. No condition. -/
import Derived.Test.YtlkaipmhjgfkpaaDoorK11
namespace Go.Proofs.YtlkaipmhjgfkpaaDoorK
open Go Go.RowKit
set_option linter.unusedSimpArgs false
set_option linter.unusedVariables false

/-- A block of cells, none of them frozen. -/
def Blk (h : Hp) (b : Nat) (c : Array Value) : Prop := ∃ e, h[b]? = some (.cells c e (0, 0))
theorem Blk.lt {h : Hp} {b : Nat} {c : Array Value} (r : Blk h b c) : b < h.size := by obtain ⟨e, r⟩ := r; exact block_lt r
theorem Blk.new (h : Hp) (c : Array Value) (e : TypeId) : Blk (h.push (.cells c e)) h.size c := ⟨e, by rw [Array.getElem?_push, if_pos rfl]⟩
theorem Blk.ext {h h' : Hp} {b : Nat} {c : Array Value} (r : Blk h b c) (x : Ext h h') : Blk h' b c := by
  have := r.lt; obtain ⟨e, r⟩ := r; exact ⟨e, by rw [x.get b this]; exact r⟩
theorem Blk.push {h : Hp} {b : Nat} {c : Array Value} (r : Blk h b c) (o : Obj) : Blk (h.push o) b c := r.ext (Ext.push h o)
theorem Blk.bel {B : Nat} {h h' : Hp} {b : Nat} {c : Array Value} (r : Blk h b c) (x : Bel B h h') (hb : b < B) : Blk h' b c := by
  obtain ⟨e, r⟩ := r; exact ⟨e, by rw [x.get b hb]; exact r⟩
theorem Blk.only {b0 : Nat} {h h' : Hp} {b : Nat} {c : Array Value} (r : Blk h b c) (x : Only b0 h h') (hb : b ≠ b0) : Blk h' b c := by
  have := r.lt; obtain ⟨e, r⟩ := r; exact ⟨e, by rw [x.get b this hb]; exact r⟩
theorem Blk.onlyS {s : Sl} {h h' : Hp} {b : Nat} {c : Array Value} (r : Blk h b c) (x : OnlyS s h h') (hb : ∀ a, s.a = some a → b ≠ a.block) : Blk h' b c := by
  have := r.lt; obtain ⟨e, r⟩ := r; exact ⟨e, by rw [x.2 b this hb]; exact r⟩
theorem Blk.stp {B : Nat} {h h' : Hp} {b : Nat} {c : Array Value} (r : Blk h b c) (x : Stp B h h') : Blk h' b c := by
  obtain ⟨e, r⟩ := r; exact ⟨e, by rw [x.cells b c e (0, 0) r]; exact r⟩
theorem Blk.set {h : Hp} {b : Nat} {c : Array Value} (r : Blk h b c) (i : Nat) (v : Value) : Blk (hset h ⟨b, i, none⟩ v) b (c.setIfInBounds i v) := by
  obtain ⟨e, r⟩ := r; exact ⟨e, hset_block r⟩
theorem Blk.other {h : Hp} {b b' : Nat} {c : Array Value} (r : Blk h b c) {i : Nat} {v : Value} (hb : b ≠ b') : Blk (hset h ⟨b', i, none⟩ v) b c :=
  r.only (hset_only h ⟨b', i, none⟩ v) hb
theorem Blk.cell {h : Hp} {b : Nat} {c : Array Value} (r : Blk h b c) (i : Nat) : hcell h ⟨b, i, none⟩ = c[i]? := by
  obtain ⟨e, r⟩ := r; exact hcell_of r
theorem ldA_blk {s : At} {h : Hp} {b i : Nat} {c : Array Value} (r : Blk h b c) {x : s.T} (hx : c[i]? = some (s.v x)) {K : s.T → Prop} (hk : K x) : ldA s h ⟨b, i, none⟩ K :=
  ⟨x, by rw [r.cell, hx], hk⟩
theorem stC_blk {h : Hp} {b i : Nat} {c : Array Value} (r : Blk h b c) (hi : i < c.size) {X : Prop} (hx : X) : stC h ⟨b, i, none⟩ X := by
  refine ⟨?_, ?_, hx⟩
  · rw [r.cell, Array.getElem?_eq_getElem hi]; rfl
  · obtain ⟨e, r⟩ := r; exact hfrozen_of r
theorem Ext.set {h0 h : Hp} (x : Ext h0 h) {b i : Nat} {v : Value} (hb : h0.size ≤ b) : Ext h0 (hset h ⟨b, i, none⟩ v) :=
  ⟨by rw [hset_size]; exact x.size, fun k hk => by rw [hset_other (show k ≠ b by omega)]; exact x.get k hk⟩
theorem Ext.thenPush {h0 h : Hp} (x : Ext h0 h) (o : Obj) : Ext h0 (h.push o) := x.trans (Ext.push h o)
theorem Bel.push {B : Nat} {h0 h : Hp} (x : Bel B h0 h) (o : Obj) (hB : B ≤ h.size) : Bel B h0 (h.push o) := x.trans ((Ext.push h o).belOf hB)
theorem Bel.set {B : Nat} {h0 h : Hp} (x : Bel B h0 h) {b i : Nat} {v : Value} (hb : B ≤ b) : Bel B h0 (hset h ⟨b, i, none⟩ v) :=
  ⟨by rw [hset_size]; exact x.size, fun k hk => by rw [hset_other (show k ≠ b by omega)]; exact x.get k hk⟩
theorem Bel.extR {B : Nat} {h0 h h' : Hp} (x : Bel B h0 h) (e : Ext h h') (hB : B ≤ h.size) : Bel B h0 h' := x.trans (e.belOf hB)

/-! What lasts through an iterator's step. -/
theorem Stp.cell {B : Nat} {h h' : Hp} (x : Stp B h h') {a : Addr} {v : Value} (hc : hcell h a = some v) : hcell h' a = some v := by
  unfold hcell at hc ⊢
  cases ho : h[a.block]? with
  | none => rw [ho] at hc; cases hc
  | some o =>
    rw [ho] at hc
    cases o with
    | cells c e fr => rw [x.cells a.block c e fr ho, ho]; exact hc
    | _ => cases hc
theorem Stp.ext {B : Nat} {h0 h h' : Hp} (x : Stp B h h') (e : Ext h0 h) (hB : h0.size ≤ B) : Ext h0 h' :=
  ⟨Nat.le_trans e.size x.size, fun k hk => (x.low k (by omega)).trans (e.get k hk)⟩
theorem Stp.bel {B B' : Nat} {h0 h h' : Hp} (x : Stp B h h') (e : Bel B' h0 h) (hB : B' ≤ B) : Bel B' h0 h' :=
  ⟨Nat.le_trans e.size x.size, fun k hk => (x.low k (by omega)).trans (e.get k hk)⟩
theorem Stp.ofExt {B : Nat} {h h' : Hp} (x : Ext h h') (hB : B ≤ h.size) : Stp B h h' :=
  ⟨x.size, fun k hk => x.get k (by omega), fun k c e fr hk => x.get k (block_lt hk)⟩
theorem IsRow.stp {α : Type} {enc : α → List Value} {size B : Nat} {h h' : Hp} {s : Sl} {l : List α} (r : IsRow enc size h s l) (x : Stp B h h') : IsRow enc size h' s l :=
  ⟨r.len, r.cap, r.at_, fun a i y ha hy j hj => by
    have := r.get a i y ha hy j hj
    rw [List.getElem?_eq_getElem hj] at this ⊢
    exact x.cell this⟩
theorem OwnRow.stp {α : Type} {enc : α → List Value} {size B B' : Nat} {h h' : Hp} {s : Sl} {l : List α} (r : OwnRow enc size B h s l) (x : Stp B' h h') : OwnRow enc size B h' s l :=
  ⟨r.row.stp x, r.own.imp id fun ⟨b, c, el, h1, h2, h3, h4⟩ => ⟨b, c, el, h1, h2, by rw [x.cells b c el _ h3]; exact h3, h4⟩⟩
theorem RKeep.refl (h : Hp) : RKeep h h := fun _ _ e => e
theorem RKeep.trans {a b c : Hp} (h : RKeep a b) (k : RKeep b c) : RKeep a c := fun i r e => k i r (h i r e)
theorem RKeep.ext {h h' : Hp} (x : Ext h h') : RKeep h h' := fun k r e => by rw [x.get k (block_lt e)]; exact e
theorem RKeep.push (h : Hp) (o : Obj) : RKeep h (h.push o) := RKeep.ext (Ext.push h o)
theorem RKeep.set (h : Hp) (a : Addr) (v : Value) : RKeep h (hset h a v) := fun k r e => by
  by_cases hk : k = a.block
  · subst hk
    unfold hset
    rw [Array.getElem?_modify, if_pos rfl, e]; rfl
  · rw [hset_other hk]; exact e
theorem callV.mono {P : Program} {v : Value} {args : List Value} {shs : List Sh} {h : Hp} {K K' : St shs → Hp → Prop} (hc : callV P v args shs h K) (hk : ∀ s h', K s h' → K' s h') : callV P v args shs h K' := by
  unfold callV callK at *
  split at hc
  · intro w hw
    obtain ⟨fn, tmps, as, bd, hy, hR⟩ := hc w hw
    exact ⟨fn, tmps, as, bd, hy, hR.mono fun e w' ⟨v, he, io, s, hs, hK⟩ => ⟨v, he, io, s, hs, hk _ _ hK⟩⟩
  · split at hc
    · exact hc.mono fun v h' ⟨s, hs, hK⟩ => ⟨s, hs, hk _ _ hK⟩
    · refine wpS.mono hc fun nx h' hn => ?_
      cases nx with
      | value v => obtain ⟨s, hs, hK⟩ := hn; exact ⟨s, hs, hk _ _ hK⟩
      | _ => exact hn.elim
  · exact hc.elim

/-- What an iterator owes whose things stand beforehand. -/
def SeqL (P : Program) (gf : FuncId) (lb : List Value) (s : Sh) (Rd : Hp → Prop) (xs : List s.T) : Prop :=
  ∀ (yv : Value) (J Jx : List s.T → Hp → Prop) (h : Hp), StableR h.size J → StableR h.size Jx → (∀ pre h1, J pre h1 → Rd h1) →
    (∀ pre x h1, (pre ++ [x]) <+: xs → J pre h1 → callV P yv [s.v x] [.at .bool] h1 fun r h2 => (r.1 = true ∧ J (pre ++ [x]) h2) ∨ (r.1 = false ∧ Jx (pre ++ [x]) h2)) →
    J [] h → CallT P gf (yv :: lb) [] h fun _ h2 => J xs h2 ∨ ∃ pre, pre <+: xs ∧ Jx pre h2
theorem SeqL.seq {P : Program} {gf : FuncId} {lb : List Value} {s : Sh} {Rd : Hp → Prop} {xs : List s.T} (h : SeqL P gf lb s Rd xs) : SeqH P gf lb s Rd (fun _ _ _ _ => True) (fun _ pre x _ => (pre ++ [x]) <+: xs) (fun ys => ys = xs) (fun pre => pre <+: xs) := by
  intro yv J0 J Jx h1 hJ0 hJ hJx hR0 hR hs hround h0
  refine CallsH.mono (h yv (J h1.size) (Jx h1.size) h1 (hJ _) (hJx _) (hR _) (fun pre x h2 hp hj => (hround _ pre x h2 hp hj).mono fun r h3 hr => hr.imp (fun ⟨a, b, _⟩ => ⟨a, b⟩) id) (hs _ _ (Nat.le_refl _) h0)) fun v h2 ⟨s, hs, hk⟩ => ⟨s, hs, ?_⟩
  rcases hk with hk | ⟨pre, hp, hk⟩
  · exact .inl ⟨_, _, rfl, hk⟩
  · exact .inr ⟨_, pre, hp, hk⟩
/-- The cells from lo on, below S, stay. -/
def Kp (lo S : Nat) (h1 h2 : Hp) : Prop := h1.size ≤ h2.size ∧ ∀ b c e fr, lo ≤ b → b < S → h1[b]? = some (.cells c e fr) → h2[b]? = h1[b]?
theorem Kp.stp {lo S B : Nat} {h1 h2 h3 : Hp} (k : Kp lo S h1 h2) (x : Stp B h2 h3) : Kp lo S h1 h3 := ⟨Nat.le_trans k.1 x.size, fun b c e fr h4 h5 h6 => by
  have := k.2 b c e fr h4 h5 h6
  rw [x.cells b c e fr (this.trans h6), this]⟩
theorem Kp.up {lo lo' S : Nat} {h1 h2 : Hp} (k : Kp lo S h1 h2) (h : lo ≤ lo') : Kp lo' S h1 h2 := ⟨k.1, fun b c e fr h4 => k.2 b c e fr (by omega)⟩
theorem Kp.trans {lo S : Nat} {h1 h2 h3 : Hp} (k : Kp lo S h1 h2) (m : Kp lo S h2 h3) : Kp lo S h1 h3 := ⟨Nat.le_trans k.1 m.1, fun b c e fr h4 h5 h6 => by
  have := k.2 b c e fr h4 h5 h6
  rw [m.2 b c e fr h4 h5 (this.trans h6), this]⟩
theorem Kp.ofStp {lo S B : Nat} {h1 h2 : Hp} (x : Stp B h1 h2) : Kp lo S h1 h2 := ⟨x.size, fun b c e fr _ _ h6 => x.cells b c e fr h6⟩
theorem Kp.ofExt {lo S : Nat} {h1 h2 : Hp} (x : Ext h1 h2) : Kp lo S h1 h2 := ⟨x.size, fun b c e fr _ _ h6 => x.get b (block_lt h6)⟩
theorem Kp.ofOnly {lo S p : Nat} {h1 h2 : Hp} (x : Only p h1 h2) (hp : p < lo ∨ S ≤ p) : Kp lo S h1 h2 := ⟨x.size, fun b c e fr h4 h5 h6 => x.get b (block_lt h6) (by omega)⟩
theorem Kp.ofOnlyS {lo S : Nat} {s : Sl} {h1 h2 : Hp} (x : OnlyS s h1 h2) (hp : ∀ a, s.a = some a → a.block < lo ∨ S ≤ a.block) : Kp lo S h1 h2 := ⟨x.1, fun b c e fr h4 h5 h6 => x.2 b (block_lt h6) fun a ha => by have := hp a ha; omega⟩
/-- A value that a range may go over, of things that it makes as it goes. -/
def IterQ (P : Program) (v : Value) (s : Sh) (Rd : Hp → Prop) (Q : Nat → List s.T → s.T → Hp → Prop) (Fin Vx : List s.T → Prop) : Prop :=
  ∃ gf lb, v = .func (.func gf) #[] lb ∧ entered P gf = true ∧ SeqH P gf lb.toList s Rd Kp Q Fin Vx
theorem rngF_ofQ {P : Program} {v : Value} {s : Sh} {h : Hp} {Rd : Hp → Prop} {Q : Nat → List s.T → s.T → Hp → Prop} {Fin Vx : List s.T → Prop} (it : IterQ P v s Rd Q Fin Vx) {Round : s.T → Hp → (Hp → Prop) → (Option Nat → Hp → Prop) → Prop} {Done : Hp → Prop} {Stop : Option Nat → Hp → Prop}
    (J0 : Hp → Prop) (J : Nat → List s.T → Hp → Prop) (Jx : Option Nat → Nat → List s.T → Hp → Prop) (hJ0 : ∀ h1 h2, J0 h1 → Stp h.size h1 h2 → J0 h2) (hJ : ∀ S, StableR h.size (J S)) (hJx : ∀ c S, StableR h.size (Jx c S)) (hR0 : ∀ h1, J0 h1 → Rd h1) (hRd : ∀ S pre h1, J S pre h1 → Rd h1)
    (hs : ∀ S h1, S ≤ h1.size → J0 h1 → J S [] h1) (h0 : J0 h) (hround : ∀ S pre x h1, Q S pre x h1 → J S pre h1 → Round x h1 (fun h2 => J S (pre ++ [x]) h2 ∧ Kp h.size S h1 h2) fun c => Jx c S (pre ++ [x])) (hdone : ∀ S xs h1, Fin xs → J S xs h1 → Done h1) (hstop : ∀ c S pre h1, Vx pre → Jx c S pre h1 → Stop c h1) :
    rngF P v s h Round Done Stop := by
  obtain ⟨gf, lb, e, he, hq⟩ := it
  exact ⟨gf, lb, e, he, J0, J, Jx, Q, Fin, Vx, Rd, Kp, fun _ _ _ _ _ _ k x => k.stp x, fun _ _ _ _ _ hl k => k.up hl, hJ0, hJ, hJx, hR0, hRd, hs, h0, hround, hq, hdone, hstop⟩
/-- A value that a range may go over: it calls yield with each of xs. -/
def IterOf (P : Program) (v : Value) (s : Sh) (Rd : Hp → Prop) (xs : List s.T) : Prop :=
  ∃ gf lb, v = .func (.func gf) #[] lb ∧ entered P gf = true ∧ SeqL P gf lb.toList s Rd xs
theorem rngF_of {P : Program} {v : Value} {s : Sh} {h : Hp} {Rd : Hp → Prop} {xs : List s.T} (it : IterOf P v s Rd xs) {Round : s.T → Hp → (Hp → Prop) → (Option Nat → Hp → Prop) → Prop} {Done : Hp → Prop} {Stop : Option Nat → Hp → Prop}
    (J : List s.T → Hp → Prop) (Jx : Option Nat → List s.T → Hp → Prop) (hJ : StableR h.size J) (hJx : ∀ c, StableR h.size (Jx c)) (hRd : ∀ pre h1, J pre h1 → Rd h1) (h0 : J [] h)
    (hround : ∀ pre x h1, (pre ++ [x]) <+: xs → J pre h1 → Round x h1 (J (pre ++ [x])) fun c => Jx c (pre ++ [x])) (hdone : ∀ h1, J xs h1 → Done h1) (hstop : ∀ c pre h1, pre <+: xs → Jx c pre h1 → Stop c h1) :
    rngF P v s h Round Done Stop := by
  obtain ⟨gf, lb, e, he, hs⟩ := it
  exact ⟨gf, lb, e, he, J [], fun _ => J, fun c _ => Jx c, _, _, _, Rd, fun _ _ _ _ => True, fun _ _ _ _ _ _ k _ => k, fun _ _ _ _ _ _ k => k, hJ [], fun _ => hJ, fun c _ => hJx c, hRd [], fun _ => hRd, fun _ _ _ hj => hj, h0, fun _ pre x h1 hp hj => by simpa only [and_true] using hround pre x h1 hp hj, hs.seq, fun _ xs' h1 e hj => hdone h1 (e ▸ hj), fun c _ => hstop c⟩

/-! Steps over a block of the call's own. -/
theorem let_to {α : Sort _} {x : α} {K : α → Prop} (hk : K x) : Let x K := hk
theorem push_to {h : Hp} {c : Array Value} {e : TypeId} {K : Hp → Prop} (hk : ∀ h', Blk h' h.size c → Ext h h' → h'.size = h.size + 1 → K h') : Let (Array.push h (Obj.cells c e)) K :=
  hk _ (Blk.new h c e) (Ext.push h _) (by simp)
theorem set_to {h : Hp} {b i : Nat} {v : Value} {c : Array Value} (r : Blk h b c) {K : Hp → Prop} (hi : i < c.size) (hk : ∀ h', Blk h' b (c.setIfInBounds i v) → Only b h h' → RKeep h h' → h'.size = h.size → K h') : stC h ⟨b, i, none⟩ (Let (hset h ⟨b, i, none⟩ v) K) :=
  stC_blk r hi (hk _ (r.set i v) (hset_only h ⟨b, i, none⟩ v) (RKeep.set _ _ _) (hset_size _ _ _))
theorem Ext.only_new {h0 h h' : Hp} {b : Nat} (x : Ext h0 h) (o : Only b h h') (hb : h0.size ≤ b) : Ext h0 h' :=
  ⟨Nat.le_trans x.size o.size, fun k hk => (o.get k (by have := x.size; omega) (by omega)).trans (x.get k hk)⟩
theorem Bel.only_new {B : Nat} {h0 h h' : Hp} {b : Nat} (x : Bel B h0 h) (o : Only b h h') (hb : B ≤ b) (hB : B ≤ h.size) : Bel B h0 h' :=
  ⟨Nat.le_trans x.size o.size, fun k hk => (o.get k (by omega) (by omega)).trans (x.get k hk)⟩

/-! Loads from rows. -/
theorem ld_row {α : Type} {enc : α → List Value} {size : Nat} {h : Hp} {s : Sl} {l : List α} (r : IsRow enc size h s l) {i : Int} {x : α} (h0 : 0 ≤ i) (hx : l[i.toNat]? = some x) {K : Addr → Prop} (hk : ∀ a, s.a = some a → cellsAt h (a.add (i.toNat * size)) (enc x) → K (a.add (i.toNat * size))) :
    idxS s.a s.len i size K := by
  have hil : i.toNat < l.length := (List.getElem?_eq_some_iff.1 hx).1
  obtain ⟨a, ha⟩ := r.at_ (by intro e; subst e; simp at hil)
  refine ⟨⟨h0, by rw [r.len]; omega⟩, ?_⟩
  rw [ha]
  exact hk a ha (r.get a i.toNat x ha hx)
theorem cellsAt.cell {h : Hp} {a : Addr} {cs : List Value} (r : cellsAt h a cs) {j : Nat} {v : Value} (hv : cs[j]? = some v) : hcell h (a.add j) = some v := by
  rw [r j (List.getElem?_eq_some_iff.1 hv).1, hv]
theorem add_zero (a : Addr) : a.add 0 = a := by unfold Addr.add; rw [if_pos rfl]
theorem cellsAt.cell0 {h : Hp} {a : Addr} {cs : List Value} (r : cellsAt h a cs) {v : Value} (hv : cs[0]? = some v) : hcell h a = some v := by
  have := r.cell hv; rwa [add_zero] at this
/-- One number of a row of numbers. -/
theorem ld_int {k : IntKind} {h h' : Hp} {s : Sl} {l : List Int} (r : IsRow (encI k) 1 h s l) (e : ∀ a v, hcell h a = some v → hcell h' a = some v) {i : Int} {x : Int} (h0 : 0 ≤ i) (hx : l[i.toNat]? = some x) {K : Int → Prop} (hk : K x) :
    idxS s.a s.len i 1 fun p => ldA (.int k) h' p K :=
  ld_row r h0 hx fun a ha hc => ⟨x, e _ _ (hc.cell0 (v := .int k x) rfl), hk⟩
theorem ld_int0 {k : IntKind} {h : Hp} {s : Sl} {l : List Int} (r : IsRow (encI k) 1 h s l) {i : Int} {x : Int} (h0 : 0 ≤ i) (hx : l[i.toNat]? = some x) {K : Int → Prop} (hk : K x) :
    idxS s.a s.len i 1 fun p => ldA (.int k) h p K := ld_int r (fun _ _ e => e) h0 hx hk
/-! Append, one at a time. -/
theorem Blk.row {α : Type} {enc : α → List Value} {size : Nat} (hE : Enc enc size) {h : Hp} {b : Nat} {c : Array Value} (r : Blk h b c) {l : List α} {cap : Nat} (hcap : l.length ≤ cap) (hc : c.toList = l.flatMap enc) : IsRow enc size h ⟨some ⟨b, 0, none⟩, l.length, cap⟩ l := by
  obtain ⟨e, r⟩ := r
  refine isRow_block hE r rfl hcap fun i hi => ?_
  rw [← hc, Array.getElem?_toList]
theorem OnlyS.bel_of {α : Type} {enc : α → List Value} {size B : Nat} {h h' : Hp} {s : Sl} {l : List α} (o : OnlyS s h h') (own : OwnRow enc size B h s l) (hB : B ≤ h.size) : Bel B h h' := o.bel hB own.above
/-- 'append(s, x)': the element's box, then the append. -/
theorem app1 {α : Type} {enc : α → List Value} {size : Nat} (hE : Enc enc size) (hsz : 0 < size) {B : Nat} {h : Hp} {s : Sl} {l : List α} (own : OwnRow enc size B h s l) (hB : B ≤ h.size) {e e1 bytes : Nat} {zero : List Value}
    (hb : (l.length + 1) * bytes ≤ 140737488355328) (hb2 : 0 < bytes ∧ bytes ≤ 65536) (hz : zero.length = size) {c : Array Value} (x : α) (hc : c.toList = enc x)
    {K : Sl → Hp → Prop} (hk : ∀ s' h', OwnRow enc size B h' s' (l ++ [x]) → OnlyS s h h' → Bel B h h' → (s'.a = s.a ∨ ∃ b, s'.a = some ⟨b, 0, none⟩ ∧ h.size ≤ b) → K s' h') :
    Let (Array.push h (Obj.cells c e1)) fun h3 => Let (Addr.mk (Array.size h) 0 none) fun p => appS e size bytes zero s.a s.len s.cap (.slice (some p) 1 1) h3 K := by
  refine push_to fun h3 b3 e3 z3 => let_to ?_
  have src : IsRow enc size h3 ⟨some ⟨h.size, 0, none⟩, 1, 1⟩ [x] := Blk.row hE b3 (l := [x]) (cap := 1) (Nat.le_refl _) (by simp [hc])
  refine app_row hE hsz (own.ext e3) src (Nat.le_trans hB e3.size) (by simpa using hb) hb2 hz fun s' h' hown hos hblk => ?_
  have os : OnlyS s h h' := ⟨by have := hos.1; omega, fun i hi ha => by rw [hos.2 i (by omega) ha, e3.get i hi]⟩
  exact hk s' h' hown os (os.bel_of own hB) (hblk.imp id fun ⟨b, h1, h2⟩ => ⟨b, h1, by omega⟩)

/-- A loop whose rounds an invariant leads through; m bounds the rounds left. -/
theorem Lp.inv {S : Type} {step : S → (S → Prop) → Prop} (I : S → Prop) (m : S → Nat) (hI : ∀ s (R : S → Prop), I s → (∀ s', I s' → m s' < m s → R s') → step s R) {s : S} (h0 : I s) : ∃ n, Lp step n s := by
  have key : ∀ k s, m s < k → I s → Lp step k s := by
    intro k
    induction k with
    | zero => intro s h _; omega
    | succ k ih => intro s h hs; exact hI s _ hs fun s' hs' hm => ih s' (by omega) hs'
  exact ⟨m s + 1, key _ s (by omega) h0⟩
end Go.Proofs.YtlkaipmhjgfkpaaDoorK
