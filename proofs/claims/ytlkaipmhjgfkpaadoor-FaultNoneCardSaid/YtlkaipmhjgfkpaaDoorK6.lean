/- The sixth part of the layer: code, loops, joins, functions. No condition. -/
import Derived.Test.YtlkaipmhjgfkpaaDoorK5b
import Derived.LoopNIn
namespace Go.Proofs.YtlkaipmhjgfkpaaDoorK
open Go
variable {ds : List Deferred} {lr : Option Nat}
set_option linter.unusedSimpArgs false
set_option linter.unusedVariables false

abbrev Live := List (Nat × Sh)
inductive HT where
  | no
  | seq (a b : HT)
  | join (live : Live) (a b : HT)
  | cond (a b : HT)
  | block (a : HT)
  | loop (live : Live) (a : HT)
  | scope (a : HT)
  | dr
  | sem (ins : List Nat) (live : Live)
  | rng (p : Nat × Sh) (a b : HT)
@[reducible] def StL : Live → Type
  | [] => Unit
  | p :: l => p.2.T × StL l
def addL : (l : Live) → StL l → AFr → AFr
  | [], _, σ => σ
  | p :: l, x, σ => (p.1, some (p.2.v x.1)) :: addL l x.2 σ
def getL : (l : Live) → AFr → (StL l → Prop) → Prop
  | [], _, K => K ()
  | p :: l, σ, K => match σ.get p.1 with
    | some v => p.2.un v fun x => getL l σ fun y => K (x, y)
    | none => False
def hasN : List Nat → Nat → Bool
  | [], _ => false
  | u :: l, t => match Nat.beq u t with
    | true => true
    | false => hasN l t
def clearF (ms : List Nat) : AFr → AFr
  | [] => []
  | (u, v) :: σ => match hasN ms u with
    | true => clearF ms σ
    | false => (u, v) :: clearF ms σ
def mods : Code → List Nat
  | .region _ ops _ => ops.toList.filterMap (·.dst)
  | .seq a b => mods a ++ mods b
  | .cond _ a b => mods a ++ mods b
  | .block _ a => mods a
  | .loop a => mods a
  | .scope a => mods a
  | _ => []
def hasRng : Code → Bool
  | .seq a b => hasRng a || hasRng b
  | .cond _ a b => hasRng a || hasRng b
  | .block _ a => hasRng a
  | .loop a => hasRng a
  | .scope a => hasRng a
  | .rangeFunc _ _ _ _ => true
  | _ => false
structure Ex where
  ret : AFr → Hp → Prop
  ex : List (Nat × (AFr → Hp → Prop))
def Ex.at (l : List (Nat × (AFr → Hp → Prop))) (id : Nat) : Option (AFr → Hp → Prop) :=
  match l with
  | [] => none
  | (u, k) :: l => match Nat.beq u id with
    | true => some k
    | false => Ex.at l id
/-- A loop, as often as n rounds. -/
def Lp {S : Type} (step : S → (S → Prop) → Prop) : Nat → S → Prop
  | 0, _ => False
  | n + 1, s => step s (Lp step n)
def Jn {α : Sort _} (J : α) (k : α → Prop) : Prop := k J
/-- What an iterator and the machine may do between two rounds, of blocks that lay: those below B and those of cells stay. -/
structure Stp (B : Nat) (h h' : Hp) : Prop where
  size : h.size ≤ h'.size
  low : ∀ k, k < B → h'[k]? = h[k]?
  cells : ∀ (k : Nat) c e fr, h[k]? = some (.cells c e fr) → h'[k]? = h[k]?
theorem Stp.refl (B : Nat) (h : Hp) : Stp B h h := ⟨Nat.le_refl _, fun _ _ => rfl, fun _ _ _ _ _ => rfl⟩
theorem Stp.trans {B : Nat} {a b c : Hp} (h : Stp B a b) (k : Stp B b c) : Stp B a c :=
  ⟨Nat.le_trans h.size k.size, fun i hi => (k.low i hi).trans (h.low i hi), fun i c e fr hi => (k.cells i c e fr ((h.cells i c e fr hi).trans hi)).trans (h.cells i c e fr hi)⟩
theorem Stp.mono {B B' : Nat} {a b : Hp} (h : Stp B a b) (hB : B' ≤ B) : Stp B' a b := ⟨h.size, fun k hk => h.low k (by omega), h.cells⟩
def StableR {β : Type} (B : Nat) (J : β → Hp → Prop) : Prop := ∀ s h1 h2, J s h1 → Stp B h1 h2 → J s h2
/-- The records of loops stay. -/
def RKeep (h h' : Hp) : Prop := ∀ (k : Nat) r, h[k]? = some (.loop r) → h'[k]? = some (.loop r)
def callV (P : Program) (v : Value) (args : List Value) (shs : List Sh) (h : Hp) (K : St shs → Hp → Prop) : Prop :=
  callK P v args.toArray h fun v' h' => ∃ s : St shs, v' = mkRes shs s ∧ K s h'
/-- A method called through an interface, its results by their types. -/
def invV (P : Program) (rv : Value) (m : String) (args : List Value) (shs : List Sh) (h : Hp) (K : St shs → Hp → Prop) : Prop :=
  invK P rv m args.toArray h fun v' h' => ∃ s : St shs, v' = mkRes shs s ∧ K s h'
/-- A call of a function, its results by their types. -/
def CallT (P : Program) (f : FuncId) (args : List Value) (shs : List Sh) (h : Hp) (K : St shs → Hp → Prop) : Prop :=
  CallsH P f args.toArray h fun v h' => ∃ s : St shs, v = mkRes shs s ∧ K s h'
/-- A call of a function without a body. -/
def ExtT (P : Program) (f : FuncId) (args : List Value) (shs : List Sh) (h : Hp) (K : St shs → Hp → Prop) : Prop :=
  extK P f args.toArray h fun v h' => ∃ s : St shs, v = mkRes shs s ∧ K s h'
/-- What an iterator owes: it calls yield with things in turn, till a round says 'no more'. It leans on Rd alone; S is as long as the heap was when the rounds began; Fr: what a round leaves as it was; Q: what is known of a thing that is yielded. -/
def SeqH (P : Program) (gf : FuncId) (lb : List Value) (s : Sh) (Rd : Hp → Prop) (Fr : Nat → Nat → Hp → Hp → Prop) (Q : Nat → List s.T → s.T → Hp → Prop) (Fin Vx : List s.T → Prop) : Prop :=
  ∀ (yv : Value) (J0 : Hp → Prop) (J Jx : Nat → List s.T → Hp → Prop) (h : Hp), (∀ h1 h2, J0 h1 → Stp h.size h1 h2 → J0 h2) → (∀ S, StableR h.size (J S)) → (∀ S, StableR h.size (Jx S)) → (∀ h1, J0 h1 → Rd h1) → (∀ S pre h1, J S pre h1 → Rd h1) →
    (∀ S h1, S ≤ h1.size → J0 h1 → J S [] h1) →
    (∀ S pre x h1, Q S pre x h1 → J S pre h1 → callV P yv [s.v x] [.at .bool] h1 fun r h2 => (r.1 = true ∧ J S (pre ++ [x]) h2 ∧ Fr h.size S h1 h2) ∨ (r.1 = false ∧ Jx S (pre ++ [x]) h2)) →
    J0 h → CallT P gf (yv :: lb) [] h fun _ h2 => (∃ S xs, Fin xs ∧ J S xs h2) ∨ ∃ S pre, Vx pre ∧ Jx S pre h2
def Rb (B : Nat) (h1 h1' : Hp) (K : Hp → Prop) : Prop := RKeep h1 h1' ∧ ∀ h2, Stp B h1' h2 → K h2
/-- A range over a function. -/
def rngF (P : Program) (gv : Value) (s : Sh) (h : Hp) (Round : s.T → Hp → (Hp → Prop) → (Option Nat → Hp → Prop) → Prop) (Done : Hp → Prop) (Stop : Option Nat → Hp → Prop) : Prop :=
  ∃ (gf : FuncId) (lb : Array Value), gv = .func (.func gf) #[] lb ∧ entered P gf = true ∧ ∃ (J0 : Hp → Prop) (J : Nat → List s.T → Hp → Prop) (Jx : Option Nat → Nat → List s.T → Hp → Prop) (Q : Nat → List s.T → s.T → Hp → Prop) (Fin Vx : List s.T → Prop) (Rd : Hp → Prop) (Fr : Nat → Nat → Hp → Hp → Prop),
    (∀ lo S B h1 h2 h3, Fr lo S h1 h2 → Stp B h2 h3 → Fr lo S h1 h3) ∧ (∀ lo lo' S h1 h2, lo ≤ lo' → Fr lo S h1 h2 → Fr lo' S h1 h2) ∧ (∀ h1 h2, J0 h1 → Stp h.size h1 h2 → J0 h2) ∧ (∀ S, StableR h.size (J S)) ∧ (∀ c S, StableR h.size (Jx c S)) ∧ (∀ h1, J0 h1 → Rd h1) ∧ (∀ S pre h1, J S pre h1 → Rd h1) ∧ (∀ S h1, S ≤ h1.size → J0 h1 → J S [] h1) ∧ J0 h ∧
    (∀ S pre x h1, Q S pre x h1 → J S pre h1 → Round x h1 (fun h2 => J S (pre ++ [x]) h2 ∧ Fr h.size S h1 h2) fun c => Jx c S (pre ++ [x])) ∧
    SeqH P gf lb.toList s Rd Fr Q Fin Vx ∧ (∀ S xs h1, Fin xs → J S xs h1 → Done h1) ∧ (∀ c S pre h1, Vx pre → Jx c S pre h1 → Stop c h1)
def exAt (l : List (Nat × (Hp → Prop))) (id : Nat) : Option (Hp → Prop) :=
  match l with
  | [] => none
  | (u, k) :: l => match Nat.beq u id with
    | true => some k
    | false => exAt l id
def StopL (ret : Hp → Prop) (ex : List (Nat × (Hp → Prop))) : Option Nat → Hp → Prop
  | none, h => ret h
  | some id, h => match exAt ex id with
    | some k => k h
    | none => False
def onePar (ps : Array Tmp) (t : Nat) : Bool :=
  match ps.toList with
  | [u] => Nat.beq u t
  | _ => false
def liveOk (ms : List Nat) (l : Live) : Bool := l.all fun p => hasN ms p.1

/-- What is known of some temps. -/
def insF (ins : List Nat) (σ : AFr) : AFr := ins.map fun t => (t, σ.get t)
/-- The operations of region id. -/
def regOps : Code → Nat → Option (Array Oper)
  | .region i ops _, id => if i = id then some ops else none
  | .seq a b, id => (regOps a id).or (regOps b id)
  | .cond _ a b, id => (regOps a id).or (regOps b id)
  | .block _ a, id => regOps a id
  | .loop a, id => regOps a id
  | .scope a, id => regOps a id
  | _, _ => none
/-- What a region whose order is open comes to, told of its own orders: ρ says what it reads, x are the values that live on. -/
def RegW (P : Program) (n : Nat) (ops : Array Oper) (ρ : AFr) (h : Hp) (live : Live) (K : StL live → Hp → Prop) : Prop :=
  ∀ (lr : Option Nat) (ds : List Deferred) (a : Act) (w : World) (Q : Exit → Act → World → Prop), Says ds ρ n a → w.heap = h →
    (∀ a' w' x, IO w w' → (∀ t, hasN (ops.toList.filterMap (·.dst)) t = false → a'.tmps[t]? = a.tmps[t]?) → Says ds (addL live x []) n a' → K x w'.heap → Q .normal a' w') →
    wpAnyIn (FF lr) 0 P .any ops Q ops.size (Array.replicate ops.size false) a { w with drawn := w.drawn + 1 }
def vc (P : Program) (n : Nat) : HT → Code → AFr → Hp → (AFr → Hp → Prop) → Ex → Prop
  | _, .skip, σ, h, N, _ => N σ h
  | _, .ret, σ, h, _, E => E.ret σ h
  | _, .exit id, σ, h, _, E => match Ex.at E.ex id with
    | some k => k σ h
    | none => False
  | _, .region _ ops false, σ, h, N, _ => vcOps P n ops ops.toList σ h N
  | .dr, .region _ ops true, σ, h, N, _ => match drawOk P n ops (ancL ops.toList []) && noSelect ops with
    | true => ∃ S : List Nat, vcDr (some S) P n ops (ancL ops.toList []) 0 ops.toList σ h [] h N
    | false => False
  | .sem ins live, .region _ ops true, σ, h, N, _ => match liveOk (ops.toList.filterMap (·.dst)) live with
    | true => RegW P n ops (insF ins σ) h live fun x h' => N (addL live x (clearF (ops.toList.filterMap (·.dst)) σ)) h'
    | false => False
  | _, .region _ ops true, σ, h, N, _ => match drawOk P n ops (ancL ops.toList []) && noSelect ops with
    | true => vcDr none P n ops (ancL ops.toList []) 0 ops.toList σ h [] h N
    | false => False
  | .seq ha hb, .seq a b, σ, h, N, E => vc P n ha a σ h (fun σ' h' => vc P n hb b σ' h' N E) E
  | .join live ha hb, .seq a b, σ, h, N, E => match liveOk (mods a) live with
    | true => Jn (fun (x : StL live) (h' : Hp) => vc P n hb b (addL live x (clearF (mods a) σ)) h' N E) fun J =>
        vc P n ha a σ h (fun σ' h' => getL live σ' fun x => J x h') E
    | false => False
  | .cond ha hb, .cond c a b, σ, h, N, E => match ev σ c with
    | some (.bool t) => cnd t (vc P n ha a σ h N E) (vc P n hb b σ h N E)
    | _ => False
  | .block ha, .block id a, σ, h, N, E => vc P n ha a σ h N { E with ex := (id, N) :: E.ex }
  | .loop live ha, .loop a, σ, h, N, E => match liveOk (mods a) live with
    | true => getL live σ fun x0 => ∃ k, Lp (S := StL live × Hp) (fun s K =>
        vc P n ha a (addL live s.1 (clearF (mods a) σ)) s.2 (fun σ' h' => getL live σ' fun x => K (x, h')) E) k (x0, h)
    | false => False
  | .scope ha, .scope a, σ, h, N, E => vc P n ha a σ h N E
  | _, .label _, σ, h, N, _ => N σ h
  | .rng p ha hb, .rangeFunc g ps assign body, σ, h, N, E => match !hasRng assign && !hasRng body && onePar ps p.1 && Nat.blt p.1 n with
    | true => wv σ g fun gv => rngF P gv p.2 h
            (fun x h1 Kn Kx => vc P n ha assign ((p.1, some (p.2.v x)) :: σ) h1 (fun σ1 h1' => Rb h.size h1 h1' fun h2 =>
              vc P n hb body σ1 h2 (fun _ h3 => RKeep h2 h3 ∧ Kn h3) ⟨fun _ h3 => RKeep h2 h3 ∧ Kx none h3, E.ex.map fun q => (q.1, fun _ h3 => RKeep h2 h3 ∧ Kx (some q.1) h3)⟩) ⟨fun _ _ => False, []⟩)
            (fun h1 => N σ h1)
            (StopL (fun h1 => E.ret σ h1) (E.ex.map fun q => (q.1, fun h1 => q.2 σ h1)))
    | false => False
  | _, _, _, _, _, _ => False

def Same (ms : List Nat) (σ σ' : AFr) : Prop := ∀ t, hasN ms t = false → σ'.get t = σ.get t
theorem Same.refl (ms : List Nat) (σ : AFr) : Same ms σ σ := fun _ _ => rfl
theorem Same.trans {ms : List Nat} {a b c : AFr} (h : Same ms a b) (k : Same ms b c) : Same ms a c := fun t ht => (k t ht).trans (h t ht)
theorem hasN_iff {l : List Nat} {t : Nat} : hasN l t = true ↔ t ∈ l := by
  induction l with
  | nil => simp [hasN]
  | cons u l ih =>
    simp only [hasN, List.mem_cons]
    split
    · rename_i h; simp [Nat.eq_of_beq_eq_true h]
    · rename_i h
      have := Nat.ne_of_beq_eq_false h
      rw [ih]; constructor
      · exact .inr
      · rintro (e | e)
        · exact (this e.symm).elim
        · exact e
theorem hasN_false {l : List Nat} {t : Nat} : hasN l t = false ↔ t ∉ l := by
  rw [← hasN_iff]; simp
theorem Same.mono {ms ms' : List Nat} {a b : AFr} (h : Same ms a b) (hm : ∀ t, t ∈ ms → t ∈ ms') : Same ms' a b :=
  fun t ht => h t (hasN_false.2 fun h' => hasN_false.1 ht (hm t h'))

theorem get_clear {ms : List Nat} {σ : AFr} {t : Nat} : (clearF ms σ).get t = if hasN ms t = true then none else σ.get t := by
  induction σ with
  | nil => simp [clearF, AFr.get]
  | cons p σ ih =>
    obtain ⟨u, v⟩ := p
    simp only [clearF]
    split
    · rename_i hu
      rw [ih, AFr.get_cons]
      by_cases e : u = t
      · subst e; simp [hu]
      · simp [e]
    · rename_i hu
      rw [AFr.get_cons, AFr.get_cons, ih]
      by_cases e : u = t
      · subst e; simp [hu]
      · simp [e]
theorem get_addL {t : Nat} : ∀ {l : Live} {x : StL l} {σ : AFr}, t ∉ l.map (·.1) → (addL l x σ).get t = σ.get t
  | [], _, _, _ => rfl
  | p :: l, x, σ, h => by
    simp only [List.map_cons, List.mem_cons, not_or] at h
    simp only [addL, AFr.get_cons]
    rw [if_neg (fun e => h.1 e.symm), get_addL h.2]

theorem getL_out {n : Nat} {a : Act} {σ' : AFr} (hs : Says ds σ' n a) : ∀ {l : Live} {K : StL l → Prop}, getL l σ' K →
    ∃ x, K x ∧ ∀ {σ}, Says ds σ n a → Says ds (addL l x σ) n a
  | [], K, h => ⟨(), h, fun h => h⟩
  | p :: l, K, h => by
    simp only [getL] at h
    split at h
    · rename_i v hv
      obtain ⟨x, rfl, h2⟩ := Sh.un_out h
      obtain ⟨y, hK, hy⟩ := getL_out hs h2
      refine ⟨(x, y), hK, fun hσ => ?_⟩
      exact (hy hσ).note (hs.get _ _ hv)
    · exact h.elim

theorem says_clear {n : Nat} {a : Act} {ms : List Nat} {σ σ' : AFr} (hs : Says ds σ' n a) (hm : Same ms σ σ') : Says ds (clearF ms σ) n a :=
  ⟨hs.defers, hs.size, fun t v e => by
    rw [get_clear] at e
    by_cases h : hasN ms t = true
    · rw [if_pos h] at e; cases e
    · rw [if_neg h] at e
      exact hs.get t v (by rw [hm t (by simpa using h)]; exact e)⟩
theorem liveOk_out {ms : List Nat} {l : Live} (h : liveOk ms l = true) {t : Nat} (ht : hasN ms t = false) : t ∉ l.map (·.1) := by
  intro hm
  obtain ⟨p, hp, rfl⟩ := List.mem_map.1 hm
  have := List.all_eq_true.1 h p hp
  rw [this] at ht; cases ht
theorem same_head {ms : List Nat} {l : Live} (h : liveOk ms l = true) (x : StL l) (σ : AFr) : Same ms σ (addL l x (clearF ms σ)) := by
  intro t ht
  rw [get_addL (liveOk_out h ht), get_clear, if_neg (by simp [ht])]

/-- The marks among the deferred calls: empty blocks of the call's own. -/
def Mk (B : Nat) (ds : List Deferred) (h : Hp) : Prop :=
  (∀ d ∈ ds, ∃ D, d = { target := .collected D, args := #[] } ∧ B ≤ D ∧ h[D]? = some (.deferred (some []))) ∧ ds.Nodup
theorem Mk.io {B : Nat} {w w' : World} (h : Mk B ds w.heap) (io : IO w w') : Mk B ds w'.heap :=
  ⟨fun d hd => by obtain ⟨D, e, hB, hD⟩ := h.1 d hd; exact ⟨D, e, hB, io.dfr _ _ hD⟩, h.2⟩
/-- What holds where a piece of code is left. -/
def Post (ds : List Deferred) (B n : Nat) (ms : List Nat) (rg : Bool) (σ : AFr) (w0 : World) (N : AFr → Hp → Prop) (E : Ex) : Exit → Act → World → Prop
  | .normal, a, w => ∃ σ' ds', Says ds' σ' n a ∧ Mk B ds' w.heap ∧ (rg = false → ds' = ds) ∧ Same ms σ σ' ∧ IO w0 w ∧ N σ' w.heap
  | .ret, a, w => ∃ σ' ds', Says ds' σ' n a ∧ Mk B ds' w.heap ∧ (rg = false → ds' = ds) ∧ IO w0 w ∧ E.ret σ' w.heap
  | .exit id, a, w => ∃ σ' ds' k, Says ds' σ' n a ∧ Mk B ds' w.heap ∧ (rg = false → ds' = ds) ∧ Same ms σ σ' ∧ IO w0 w ∧ Ex.at E.ex id = some k ∧ k σ' w.heap
  | _, _, _ => False

theorem same_put {ms : List Nat} {σ : AFr} {d : Option Tmp} {v : Option Value} (h : ∀ t, d = some t → t ∈ ms) : Same ms σ (σ.put d v) := by
  intro t ht
  cases d with
  | none => rfl
  | some d =>
    simp only [AFr.put, AFr.get_cons]
    rw [if_neg]
    intro e
    exact hasN_false.1 ht (e ▸ h d rfl)

theorem same_ops {ops : Array Oper} {σ σ' : AFr} (h : SameO ops σ σ') : Same (ops.toList.filterMap (·.dst)) σ σ' := by
  intro t ht
  refine h t fun o ho hd => ?_
  exact hasN_false.1 ht (List.mem_filterMap.2 ⟨o, ho, hd⟩)

theorem Post.up {ds1 : List Deferred} {B n : Nat} {ms ms' : List Nat} {rg rg' : Bool} {σ σ1 : AFr} {w0 w1 : World} {N N' : AFr → Hp → Prop} {E : Ex} (hd : rg' = false → ds1 = ds) (hrg : rg' = false → rg = false) (hm : Same ms' σ σ1) (hms : ∀ t, t ∈ ms → t ∈ ms') (io : IO w0 w1) {e : Exit} {a : Act} {w : World}
    (hN : ∀ σ' ds', Says ds' σ' n a → Mk B ds' w.heap → (rg' = false → ds' = ds) → Same ms' σ σ' → IO w0 w → N σ' w.heap → Post ds B n ms' rg' σ w0 N' E .normal a w) (h : Post ds1 B n ms rg σ1 w1 N E e a w) : Post ds B n ms' rg' σ w0 N' E e a w := by
  cases e with
  | normal =>
    obtain ⟨σ', ds', hs, hmk, hds, hm', io', hk⟩ := h
    exact hN σ' ds' hs hmk (fun e => (hds (hrg e)).trans (hd e)) (hm.trans (hm'.mono hms)) (io.trans io') hk
  | ret =>
    obtain ⟨σ', ds', hs, hmk, hds, io', hk⟩ := h
    exact ⟨σ', ds', hs, hmk, fun e => (hds (hrg e)).trans (hd e), io.trans io', hk⟩
  | exit id =>
    obtain ⟨σ', ds', k, hs, hmk, hds, hm', io', he, hk⟩ := h
    exact ⟨σ', ds', k, hs, hmk, fun e => (hds (hrg e)).trans (hd e), hm.trans (hm'.mono hms), io.trans io', he, hk⟩
  | _ => exact h.elim
theorem Post.up0 {B n : Nat} {ms ms' : List Nat} {rg rg' : Bool} {σ σ1 : AFr} {w0 w1 : World} {N : AFr → Hp → Prop} {E : Ex} (hrg : rg' = false → rg = false) (hm : Same ms' σ σ1) (hms : ∀ t, t ∈ ms → t ∈ ms') (io : IO w0 w1) {e : Exit} {a : Act} {w : World}
    (h : Post ds B n ms rg σ1 w1 N E e a w) : Post ds B n ms' rg' σ w0 N E e a w :=
  h.up (fun _ => rfl) hrg hm hms io fun σ' ds' hs hmk hds hm' io' hk => ⟨σ', ds', hs, hmk, hds, hm', io', hk⟩

theorem wpIn_loop_n {P : Program} {c : Code} {Q : Exit → Act → World → Prop} (I : Nat → Act → World → Prop) (h0 : ∀ a w, ¬ I 0 a w)
    (round : ∀ k a w, I (k + 1) a w → c.wpIn (FF lr) 0 P (Exit.then (I k) Q) a w) (k : Nat) {a : Act} {w : World} (hI : I k a w) : (Code.loop c).wpIn (FF lr) 0 P Q a w := by
  refine wpIn_loop_rounds k ?_
  have key : ∀ k a w, I k a w → Code.roundsIn (FF lr) 0 P c Q k a w := by
    intro k
    induction k with
    | zero => exact fun a w h => (h0 a w h).elim
    | succ k ih =>
      intro a w hI
      refine wpIn_mono (round k a w hI) fun e a1 w1 hp => ?_
      cases e with
      | normal => exact ih a1 w1 hp
      | _ => exact hp
  exact key k a w hI

theorem at_cons {id id' : Nat} {k : AFr → Hp → Prop} {l : List (Nat × (AFr → Hp → Prop))} : Ex.at ((id, k) :: l) id' = if id = id' then some k else Ex.at l id' := by
  simp only [Ex.at]
  split
  · rename_i h; rw [if_pos (Nat.eq_of_beq_eq_true h)]
  · rename_i h; rw [if_neg (Nat.ne_of_beq_eq_false h)]

theorem stepR_scope {P : Program} {b : Frame} {a : Act} {k : List Item} {cs : List Frame} {w : World} {c : Code} : step P (lone (b.atR a (.code (.scope c) :: k)) cs w) = .next (lone (b.atR a (.code c :: .inScope c :: k)) cs w) :=
  step_lone_go (by simp [stepG, stepG.exec, Frame.atR])
theorem stepR_inScope {P : Program} {b : Frame} {a : Act} {k : List Item} {cs : List Frame} {w : World} {c : Code} : step P (lone (b.atR a (.inScope c :: k)) cs w) = .next (lone (b.atR a k) cs w) :=
  step_lone_go (by simp [stepG, stepG.exec, Frame.atR])
theorem wpIn_scope {F : Fence} {n : Nat} {P : Program} {Q : Exit → Act → World → Prop} {a : Act} {w : World} {c : Code} (hQ : ∀ l a w, ¬ Q (.goto l) a w) (h : c.wpIn F n P Q a w) : (Code.scope c).wpIn F n P Q a w := by
  intro b k cs hro hb hr
  have h0 : (lone (b.atR a (.code (.scope c) :: k)) cs w).fenced P F := fenced_calm hb hr rfl
  obtain ⟨e, a₁, w₁, hq, harr⟩ := h b (.inScope c :: k) cs hro hb hr
  cases e with
  | normal => exact ⟨.normal, a₁, w₁, hq, .head h0 stepR_scope (StepsIn.trans harr (.one (fenced_calm hb hr rfl) stepR_inScope))⟩
  | exit id' =>
    have hx : exitTo id' (.inScope c :: k) = exitTo id' k := by simp [exitTo]
    exact ⟨.exit id', a₁, w₁, hq, fun k' hk => .head h0 stepR_scope (harr.1 k' (by rw [hx]; exact hk)),
      fun hr' hk => let ⟨k₁, h1, h2⟩ := harr.2 hr' (by rw [hx]; exact hk); ⟨k₁, h1, .head h0 stepR_scope h2⟩⟩
  | goto l => exact (hQ l a₁ w₁ hq).elim
  | ret => exact ⟨_, a₁, w₁, hq, .of_steps (.one h0 stepR_scope) harr⟩
  | panic ch => exact ⟨_, a₁, w₁, hq, .of_steps (.one h0 stepR_scope) harr⟩
  | outgrown => exact ⟨_, a₁, w₁, hq, .of_steps (.one h0 stepR_scope) harr⟩

/-! Records of loops. -/
theorem putLoop_get {w : World} {l : Nat} {r : Loop} (o : Loop) (h : w.heap[l]? = some (.loop r)) : (w.putObj l (.loop o)).heap[l]? = some (.loop o) := World.putObj_heap_same (Array.getElem?_eq_some_iff.1 h).1
theorem IO.loop {w : World} {l : Nat} {r : Loop} (o : Loop) (h : w.heap[l]? = some (.loop r)) : IO w (w.putObj l (.loop o)) :=
  ⟨rfl, rfl, rfl, Nat.le_refl _, by simp, fun k ds hk => by
    have : k ≠ l := fun e => by subst e; rw [h] at hk; cases hk
    rw [World.putObj_heap_other this]; exact hk⟩
theorem Stp.loop {B : Nat} {w : World} {l : Nat} {r : Loop} (o : Loop) (h : w.heap[l]? = some (.loop r)) (hB : B ≤ l) : Stp B w.heap (w.putObj l (.loop o)).heap :=
  ⟨by simp, fun k hk => World.putObj_heap_other (by omega), fun k c e fr hk => World.putObj_heap_other fun e => by subst e; rw [h] at hk; cases hk⟩
theorem Stp.push {B : Nat} (h : Hp) (o : Obj) (hB : B ≤ h.size) : Stp B h (h.push o) :=
  ⟨by simp, fun k hk => by rw [Array.getElem?_push, if_neg (by omega)], fun k c e fr hk => by
    have := (Array.getElem?_eq_some_iff.1 hk).1
    rw [Array.getElem?_push, if_neg (by omega)]⟩
def jumpOf : Option Nat → Code
  | none => .ret
  | some id => .exit id

theorem exMap_at {f : Nat → AFr → Hp → Prop} {id : Nat} : ∀ {l : List (Nat × (AFr → Hp → Prop))} {k : AFr → Hp → Prop}, Ex.at (l.map fun q => (q.1, f q.1)) id = some k → k = f id
  | [], k, h => by cases h
  | (u, k0) :: l, k, h => by
    simp only [List.map_cons] at h
    rw [at_cons] at h
    by_cases e : u = id
    · rw [if_pos e] at h; subst e; cases h; rfl
    · rw [if_neg e] at h; exact exMap_at h

theorem exAt_map {σ : AFr} {id : Nat} : ∀ {l : List (Nat × (AFr → Hp → Prop))} {k : Hp → Prop}, exAt (l.map fun q => (q.1, fun h1 => q.2 σ h1)) id = some k → ∃ k0, Ex.at l id = some k0 ∧ k = k0 σ
  | [], k, h => by cases h
  | (u, k0) :: l, k, h => by
    simp only [List.map_cons, exAt] at h
    rw [at_cons]
    split at h
    · rename_i e
      rw [if_pos (Nat.eq_of_beq_eq_true e)]
      cases h; exact ⟨k0, rfl, rfl⟩
    · rename_i e
      rw [if_neg (Nat.ne_of_beq_eq_false e)]
      exact exAt_map h

theorem rng_sound {P : Program} {n : Nat} {B : Nat} {g : Operand} {ps : Array Tmp} {assign body : Code} {p : Nat × Sh} {σ : AFr} {a : Act} {w : World} {N : AFr → Hp → Prop} {E : Ex} {ha hb : HT} {gv : Value} {ms : List Nat}
    (hlr : lr = none) (hs : Says ds σ n a) (hmk : Mk B ds w.heap) (hB : B ≤ w.heap.size) (hps : ps = #[p.1]) (hpn : p.1 < n) (hg : a.eval g = gv)
    (iha : ∀ {l : Nat} {σ : AFr} {a : Act} {w : World} {N : AFr → Hp → Prop} {E : Ex}, Says [] σ n a → vc P n ha assign σ w.heap N E → assign.wpIn (FF (some l)) 0 P (Post [] 0 n (mods assign) false σ w N E) a w)
    (ihb : ∀ {l : Nat} {σ : AFr} {a : Act} {w : World} {N : AFr → Hp → Prop} {E : Ex}, Says [] σ n a → vc P n hb body σ w.heap N E → body.wpIn (FF (some l)) 0 P (Post [] 0 n (mods body) false σ w N E) a w)
    (hk : rngF P gv p.2 w.heap (fun x h1 Kn Kx => vc P n ha assign ((p.1, some (p.2.v x)) :: σ) h1 (fun σ1 h1' => Rb w.heap.size h1 h1' fun h2 =>
              vc P n hb body σ1 h2 (fun _ h3 => RKeep h2 h3 ∧ Kn h3) ⟨fun _ h3 => RKeep h2 h3 ∧ Kx none h3, E.ex.map fun q => (q.1, fun _ h3 => RKeep h2 h3 ∧ Kx (some q.1) h3)⟩) ⟨fun _ _ => False, []⟩)
            (fun h1 => N σ h1)
            (StopL (fun h1 => E.ret σ h1) (E.ex.map fun q => (q.1, fun h1 => q.2 σ h1)))) :
    (Code.rangeFunc g ps assign body).wpIn (FF lr) 0 P (Post ds B n ms true σ w N E) a w := by
  subst hlr
  obtain ⟨gf, lb, hgv, hent, J0, J, Jx, Q, Fin, Vx, Rd, Fr, hF1, hF2, hJ0, hJ, hJx, hRd0, hRd, hstart, h0, hround, hseq, hdone, hstop⟩ := hk
  refine wpIn_rangeFunc ?_
  intro fn _
  obtain ⟨rec, hrec⟩ : ∃ rec : LoopState → Option Code → Loop, rec = fun st pe => { state := st, pending := pe, fn, tmps := a.tmps, params := ps, assign, body, defers := w.heap.size } := ⟨_, rfl⟩
  obtain ⟨W1, hW1⟩ : ∃ W1, (w.alloc (.deferred (some []))).alloc (.loop (rec .ready none)) = W1 := ⟨_, rfl⟩
  have hh1 : W1.heap = (w.heap.push (.deferred (some []))).push (.loop (rec .ready none)) := by rw [← hW1]; rfl
  have hL1 : W1.heap[w.heap.size + 1]? = some (.loop (rec .ready none)) := by rw [hh1, Array.getElem?_push, if_pos (by simp)]
  have hK1 : W1.heap[w.heap.size]? = some (.deferred (some [])) := by rw [hh1, Array.getElem?_push, if_neg (by simp), Array.getElem?_push, if_pos rfl]
  have hio1 : IO w W1 := by rw [← hW1]; exact (IO.push w _).trans (IO.push _ _)
  have hst1 : Stp w.heap.size w.heap W1.heap := by rw [hh1]; exact (Stp.push _ _ (Nat.le_refl _)).trans (Stp.push _ _ (by simp))
  have hsz1 : W1.heap.size = w.heap.size + 2 := by rw [hh1]; simp
  refine ⟨w.heap.size + 1, [{ target := .collected w.heap.size, args := #[] }], W1, { target := .fn (.func gf) lb, args := #[.func (.yield (w.heap.size + 1)) #[] #[]] }, W1, gf,
    #[.func (.yield (w.heap.size + 1)) #[] #[]] ++ lb, W1, ?_, ?_, fun _ _ => trivial, ?_, fun h => (by cases h), ?_⟩
  · rw [← hW1, hrec]; exact run_enterLoop_outer _ _ _ _ _
  · simp only [resolve, hg, hgv]
    simp [go_sem]
  · simp only [invoke]; exact entered_out hent _ _
  · have hcall := hseq (.func (.yield (w.heap.size + 1)) #[] #[])
      (fun h => J0 h ∧ h[w.heap.size + 1]? = some (.loop (rec .ready none)))
      (fun S pre h => J S pre h ∧ h[w.heap.size + 1]? = some (.loop (rec .ready none)))
      (fun S pre h => ∃ c, Jx c S pre h ∧ h[w.heap.size + 1]? = some (.loop (rec .done (some (jumpOf c)))))
      W1.heap
      (fun h1 h2 hs st => ⟨hJ0 h1 h2 hs.1 (st.mono (by omega)), (st.low _ (by omega)).trans hs.2⟩)
      (fun S s h1 h2 hs st => ⟨hJ S s h1 h2 hs.1 (st.mono (by omega)), (st.low _ (by omega)).trans hs.2⟩)
      (fun S s h1 h2 hs st => by obtain ⟨c, h3, h4⟩ := hs; exact ⟨c, hJx c S s h1 h2 h3 (st.mono (by omega)), (st.low _ (by omega)).trans h4⟩)
      (fun h1 h => hRd0 h1 h.1)
      (fun S pre h1 h => hRd S pre h1 h.1)
      (fun S h1 hS h => ⟨hstart S h1 hS h.1, h.2⟩)
      ?_ ⟨hJ0 _ _ h0 hst1, hL1⟩
    · have hc := hcall W1 rfl
      refine CallsIn.mono (F := FF none) ((callsIn_wide (n := 0)).2 (by
        have e : (Value.func (Fn.yield (w.heap.size + 1)) #[] #[] :: lb.toList).toArray = #[.func (.yield (w.heap.size + 1)) #[] #[]] ++ lb := by
          apply Array.ext'; simp
        rw [e] at hc; exact hc)) ?_
      rintro e W2 ⟨v, rfl, io2, s, _, hs2⟩
      have hD2 : W2.heap[w.heap.size]? = some (.deferred (some [])) := io2.dfr _ _ hK1
      have fin : ∀ {st pe}, W2.heap[w.heap.size + 1]? = some (.loop (rec st pe)) → st ≠ .busy →
          (Instr.endLoop (w.heap.size + 1)).run P W2 = .ok pe (W2.putObj (w.heap.size + 1) (.loop (rec .exhausted pe))) ∧ IO w (W2.putObj (w.heap.size + 1) (.loop (rec .exhausted pe))) ∧
          Stp w.heap.size W2.heap (W2.putObj (w.heap.size + 1) (.loop (rec .exhausted pe))).heap ∧
          Mk B ({ target := .collected w.heap.size, args := #[] } :: ds) (W2.putObj (w.heap.size + 1) (.loop (rec .exhausted pe))).heap := by
        intro st pe hl hb
        have := run_endLoop (P := P) hl (by rw [hrec]; exact hb)
        rw [hrec] at this hl ⊢
        refine ⟨this, (hio1.trans io2).trans (IO.loop _ hl), Stp.loop _ hl (by omega), ?_, ?_⟩
        · intro d hd
          rcases List.mem_cons.1 hd with rfl | hd
          · exact ⟨w.heap.size, rfl, hB, (IO.loop _ hl).dfr _ _ hD2⟩
          · obtain ⟨D, e, h1, h2⟩ := hmk.1 d hd
            exact ⟨D, e, h1, ((hio1.trans io2).trans (IO.loop _ hl)).dfr _ _ h2⟩
        · refine List.nodup_cons.2 ⟨fun hd => ?_, hmk.2⟩
          obtain ⟨D, e, _, h2⟩ := hmk.1 _ hd
          have := (Array.getElem?_eq_some_iff.1 h2).1
          simp only [Deferred.mk.injEq, Target.collected.injEq] at e
          omega
      have hsa : Says ({ target := .collected w.heap.size, args := #[] } :: ds) σ n { a with defers := [{ target := .collected w.heap.size, args := #[] }] ++ a.defers } :=
        ⟨by show _ :: a.defers = _; rw [hs.defers], hs.size, hs.get⟩
      rcases hs2 with ⟨S, xs, hfin, hj, hl⟩ | ⟨S, pre, hpre, c, hj, hl⟩
      · obtain ⟨h1, h2, h3, h4⟩ := fin hl (by simp)
        exact ⟨none, _, h1, σ, _, hsa, h4, fun e => (by cases e), Same.refl _ _, h2, hdone S xs _ hfin (hJ S _ _ _ hj h3)⟩
      · obtain ⟨h1, h2, h3, h4⟩ := fin hl (by simp)
        refine ⟨some (jumpOf c), _, h1, ?_⟩
        have hst := hstop c S pre _ hpre (hJx c S _ _ _ hj h3)
        cases c with
        | none => exact wpIn_ret ⟨σ, _, hsa, h4, fun e => (by cases e), h2, hst⟩
        | some id =>
          simp only [StopL] at hst
          split at hst
          · rename_i k hk
            obtain ⟨k0, hk0, e⟩ := exAt_map hk
            subst e
            exact wpIn_exit ⟨σ, _, k0, hsa, h4, fun e => (by cases e), Same.refl _ _, h2, hk0, hst⟩
          · exact hst.elim
    · -- one round
      rintro S pre x h1 hpre ⟨hj, hl⟩
      show callK P _ _ h1 _
      unfold callK
      intro W hW
      subst hW
      have hy := run_yield (P := P) (args := #[p.2.v x]) hl (by rw [hrec, hps]; rfl)
      refine ⟨_, _, _, _, hy, roundIn_of_wpIn (F := FF none) trivial ?_⟩
      rw [hrec]
      have hs0 : Says [] ((p.1, some (p.2.v x)) :: σ) n { tmps := (ps.zip #[p.2.v x]).foldl (fun tmps (t, a) => tmps.setIfInBounds t a) a.tmps, defers := [] } := by
        subst hps
        refine ⟨rfl, by simp [hs.size], fun t v e => ?_⟩
        rw [AFr.get_cons] at e
        have hz : (#[p.1].zip #[p.2.v x]).foldl (fun (tmps : Array Value) (t, a) => tmps.setIfInBounds t a) a.tmps = a.tmps.setIfInBounds p.1 (p.2.v x) := by simp
        show ((#[p.1].zip #[p.2.v x]).foldl (fun (tmps : Array Value) (t, a) => tmps.setIfInBounds t a) a.tmps)[t]? = some v
        rw [hz]
        rw [Array.getElem?_setIfInBounds]
        by_cases e1 : p.1 = t
        · rw [if_pos e1] at e ⊢
          rw [if_pos (by rw [hs.size]; exact hpn)]; exact e
        · rw [if_neg e1] at e ⊢
          exact hs.get t v e
      have hR := hround S pre x W.heap hpre hj
      refine wpIn_mono (iha (l := w.heap.size + 1) hs0 hR) ?_
      intro e a1 W2 hp
      cases e with
      | normal =>
        obtain ⟨σ1, ds1, hs1, _, hds1, _, io1, hkeep, hnext⟩ := hp
        obtain rfl := hds1 rfl
        have hl2 := hkeep _ _ hl
        have hl3 := putLoop_get { rec .ready none with state := .busy } hl2
        refine ⟨_, run_beginRound hl2 (by rw [hrec]), ?_⟩
        have hvb := hnext (W2.putObj (w.heap.size + 1) (.loop { rec .ready none with state := .busy })).heap (Stp.loop _ hl2 (by omega))
        refine wpIn_mono (ihb (l := w.heap.size + 1) hs1 hvb) ?_
        intro e a3 W3 hp3
        have ioB := IO.loop { rec .ready none with state := .busy } hl2
        have fin : ∀ (jump : Option Code), W3.heap[w.heap.size + 1]? = some (.loop { rec .ready none with state := .busy }) →
            (Instr.endRound (w.heap.size + 1) jump).run P W3 = .ok (.bool jump.isNone) (W3.putObj (w.heap.size + 1) (.loop (rec (if jump.isNone then .ready else .done) jump))) ∧
            Stp w.heap.size W3.heap (W3.putObj (w.heap.size + 1) (.loop (rec (if jump.isNone then .ready else .done) jump))).heap ∧
            IO W3 (W3.putObj (w.heap.size + 1) (.loop (rec (if jump.isNone then .ready else .done) jump))) ∧
            (W3.putObj (w.heap.size + 1) (.loop (rec (if jump.isNone then .ready else .done) jump))).heap[w.heap.size + 1]? = some (.loop (rec (if jump.isNone then .ready else .done) jump)) := by
          intro jump hl4
          have := run_endRound (P := P) jump hl4
          rw [hrec] at this hl4 ⊢
          exact ⟨this, Stp.loop _ hl4 (by omega), IO.loop _ hl4, putLoop_get _ hl4⟩
        cases e with
        | normal =>
          obtain ⟨σ3, _, _, _, _, _, io3, hk3, hj3⟩ := hp3
          obtain ⟨f1, f2, f3, f4⟩ := fin none (hk3 _ _ hl3)
          exact ⟨_, _, f1, _, rfl, ((io1.trans ioB).trans io3).trans f3, (true, ()), rfl, .inl ⟨rfl, ⟨hJ S _ _ _ hj3.1 f2, by rw [hrec] at f4 ⊢; exact f4⟩, hF2 _ _ _ _ _ (by omega) (hF1 _ _ _ _ _ _ hj3.2 f2)⟩⟩
        | ret =>
          obtain ⟨σ3, _, _, _, _, io3, hk3, hj3⟩ := hp3
          obtain ⟨f1, f2, f3, f4⟩ := fin (some .ret) (hk3 _ _ hl3)
          exact ⟨_, _, f1, _, rfl, ((io1.trans ioB).trans io3).trans f3, (false, ()), rfl, .inr ⟨rfl, none, hJx _ S _ _ _ hj3 f2, by rw [hrec] at f4 ⊢; exact f4⟩⟩
        | exit id =>
          obtain ⟨σ3, _, k3, _, _, _, _, io3, he3, hk3⟩ := hp3
          have e3 := exMap_at (f := fun u _ h3 => RKeep (W2.putObj (w.heap.size + 1) (.loop { rec .ready none with state := .busy })).heap h3 ∧ Jx (some u) S (pre ++ [x]) h3) he3
          subst e3
          obtain ⟨hk3, hj3⟩ := hk3
          obtain ⟨f1, f2, f3, f4⟩ := fin (some (.exit id)) (hk3 _ _ hl3)
          exact ⟨_, _, f1, _, rfl, ((io1.trans ioB).trans io3).trans f3, (false, ()), rfl, .inr ⟨rfl, some id, hJx _ S _ _ _ hj3 f2, by rw [hrec] at f4 ⊢; exact f4⟩⟩
        | _ => exact hp3.elim
      | ret => obtain ⟨_, _, _, _, _, _, h⟩ := hp; exact h.elim
      | exit id => obtain ⟨_, _, k, _, _, _, _, _, h, _⟩ := hp; cases h
      | _ => exact hp.elim

theorem insF_get {σ : AFr} {t : Nat} {v : Value} : ∀ {ins : List Nat}, (insF ins σ).get t = some v → σ.get t = some v
  | [], h => by simp [insF, AFr.get] at h
  | u :: ins, h => by
    unfold insF at h
    rw [List.map_cons, AFr.get_cons] at h
    split at h
    · rename_i e; subst e; exact h
    · exact insF_get h
theorem Says.ins {ds : List Deferred} {σ : AFr} {n : Nat} {a : Act} (hs : Says ds σ n a) (ins : List Nat) : Says ds (insF ins σ) n a := ⟨hs.defers, hs.size, fun t v h => hs.get t v (insF_get h)⟩
theorem get_addL_mem {t : Nat} {σ τ : AFr} : ∀ {l : Live} {x : StL l}, t ∈ l.map (·.1) → (addL l x σ).get t = (addL l x τ).get t
  | [], x, h => by cases h
  | p :: l, x, h => by
    simp only [addL, AFr.get_cons]
    by_cases e : p.1 = t
    · rw [if_pos e, if_pos e]
    · rw [if_neg e, if_neg e]
      refine get_addL_mem ?_
      rcases List.mem_cons.1 h with h | h
      · exact (e h.symm).elim
      · exact h
theorem Says.sem {ds : List Deferred} {σ : AFr} {n : Nat} {a a' : Act} {ms : List Nat} {live : Live} {x : StL live} (hs : Says ds σ n a) (hst : ∀ t, hasN ms t = false → a'.tmps[t]? = a.tmps[t]?) (h : Says ds (addL live x []) n a') : Says ds (addL live x (clearF ms σ)) n a' := by
  refine ⟨h.defers, h.size, fun t v hg => ?_⟩
  by_cases ht : t ∈ live.map (·.1)
  · exact h.get t v (by rw [get_addL_mem (τ := clearF ms σ) ht]; exact hg)
  · rw [get_addL ht, get_clear] at hg
    split at hg
    · cases hg
    · rename_i hn
      rw [hst t (by simpa using hn)]
      exact hs.get t v hg

theorem vc_sound {P : Program} (hmix : P.follows .mixedOrders = true) {n : Nat} : ∀ (c : Code) (H : HT) {ds : List Deferred} {lr : Option Nat} {B : Nat} {σ : AFr} {a : Act} {w : World} {N : AFr → Hp → Prop} {E : Ex}, (lr = none ∨ hasRng c = false) → Says ds σ n a → Mk B ds w.heap → B ≤ w.heap.size → vc P n H c σ w.heap N E →
    c.wpIn (FF lr) 0 P (Post ds B n (mods c) (hasRng c) σ w N E) a w := by
  intro c
  induction c with
  | skip =>
    intro H ds lr B σ a w N E _ hs hm _ hk
    have hk : N σ w.heap := by cases H <;> exact hk
    exact wpIn_skip ⟨σ, ds, hs, hm, fun _ => rfl, Same.refl _ _, IO.refl w, hk⟩
  | label l =>
    intro H ds lr B σ a w N E _ hs hm _ hk
    have hk : N σ w.heap := by cases H <;> exact hk
    exact wpIn_label ⟨σ, ds, hs, hm, fun _ => rfl, Same.refl _ _, IO.refl w, hk⟩
  | ret =>
    intro H ds lr B σ a w N E _ hs hm _ hk
    have hk : E.ret σ w.heap := by cases H <;> exact hk
    exact wpIn_ret ⟨σ, ds, hs, hm, fun _ => rfl, IO.refl w, hk⟩
  | exit id =>
    intro H ds lr B σ a w N E _ hs hm _ hk
    have hk : (match Ex.at E.ex id with | some k => k σ w.heap | none => False) := by cases H <;> exact hk
    split at hk
    · rename_i k he
      exact wpIn_exit ⟨σ, ds, k, hs, hm, fun _ => rfl, Same.refl _ _, IO.refl w, he, hk⟩
    · exact hk.elim
  | region id ops draw =>
    intro H ds lr B σ a w N E _ hs hmk _ hk
    cases draw with
    | false =>
      have hk : vcOps P n ops ops.toList σ w.heap N := by cases H <;> exact hk
      refine wpIn_region (vcOps_wp ops.toList _ ?_ hs hk fun σ' a' w' hs' hm io hK => ⟨σ', ds, hs', hmk.io io, fun _ => rfl, same_ops hm, io, hK⟩)
      apply List.ext_getElem?
      intro i
      simp only [List.getElem?_map, Array.getElem?_toList]
      by_cases hi : i < ops.size
      · rw [List.getElem?_eq_getElem (by simpa using hi), Array.getElem?_eq_getElem hi]; simp [Array.getElem?_eq_getElem hi]
      · rw [List.getElem?_eq_none (by simpa using hi), Array.getElem?_eq_none (by omega)]; rfl
    | true =>
      by_cases hsem : ∃ ins live, H = .sem ins live
      · obtain ⟨ins, live, rfl⟩ := hsem
        simp only [vc] at hk
        split at hk
        · rename_i hlv
          exact wpIn_region_any hmix (hk lr ds a w _ (hs.ins ins) rfl fun a' w' x io hst hs' hK => ⟨_, ds, hs.sem hst hs', hmk.io io, fun _ => rfl, same_head hlv x σ, io, hK⟩)
        · exact hk.elim
      have hk : (match drawOk P n ops (ancL ops.toList []) && noSelect ops with
        | true => ∃ S : Option (List Nat), vcDr S P n ops (ancL ops.toList []) 0 ops.toList σ w.heap [] w.heap N
        | false => False) := by
        cases H <;> (first | exact (hsem ⟨_, _, rfl⟩).elim | (simp only [vc] at hk; split at hk <;> (first | exact hk.elim | exact ⟨_, hk⟩ | (obtain ⟨S, hk⟩ := hk; exact ⟨some S, hk⟩))))
      split at hk
      · rename_i hok
        rw [Bool.and_eq_true] at hok
        obtain ⟨S, hk⟩ := hk
        exact vcDr_wp hmix hok.1 hok.2 hs hk fun σ' a' w' hs' hm io hK => ⟨σ', ds, hs', hmk.io io, fun _ => rfl, same_ops hm, io, hK⟩
      · exact hk.elim
  | seq x y ihx ihy =>
    intro H ds lr B σ a w N E hlr hs hmk hB hk
    have hlx : lr = none ∨ hasRng x = false := hlr.imp id fun h => by simp only [hasRng, Bool.or_eq_false_iff] at h; exact h.1
    have hly : lr = none ∨ hasRng y = false := hlr.imp id fun h => by simp only [hasRng, Bool.or_eq_false_iff] at h; exact h.2
    have hrx : hasRng (.seq x y) = false → hasRng x = false := fun h => by simp only [hasRng, Bool.or_eq_false_iff] at h; exact h.1
    have hry : hasRng (.seq x y) = false → hasRng y = false := fun h => by simp only [hasRng, Bool.or_eq_false_iff] at h; exact h.2
    cases H with
    | seq ha hb =>
      simp only [vc] at hk
      refine wpIn_seq (wpIn_mono (ihx ha hlx hs hmk hB hk) fun e a1 w1 hp => ?_)
      cases e with
      | normal =>
        obtain ⟨σ1, ds1, hs1, hmk1, hds1, hm1, io1, hk1⟩ := hp
        refine wpIn_mono (ihy hb hly hs1 hmk1 (Nat.le_trans hB io1.size) hk1) fun e a2 w2 hp2 => ?_
        exact hp2.up (fun e => hds1 (hrx e)) hry (hm1.mono fun t ht => by simp [mods, ht]) (fun t ht => by simp [mods, ht]) io1 fun σ' ds' hs' hmk' hds' hm' io' hk' => ⟨σ', ds', hs', hmk', hds', hm', io', hk'⟩
      | ret => 
        obtain ⟨σ', ds', hs', hmk', hds', io', hk'⟩ := hp
        exact ⟨σ', ds', hs', hmk', fun e => hds' (hrx e), io', hk'⟩
      | exit id => 
        obtain ⟨σ', ds', k, hs', hmk', hds', hm', io', he, hk'⟩ := hp
        exact ⟨σ', ds', k, hs', hmk', fun e => hds' (hrx e), hm'.mono fun t ht => by simp [mods, ht], io', he, hk'⟩
      | _ => exact hp.elim
    | join live ha hb =>
      simp only [vc] at hk
      split at hk
      · rename_i hlo
        unfold Jn at hk
        refine wpIn_seq (wpIn_mono (ihx ha hlx hs hmk hB hk) fun e a1 w1 hp => ?_)
        cases e with
        | normal =>
          obtain ⟨σ1, ds1, hs1, hmk1, hds1, hm1, io1, hk1⟩ := hp
          obtain ⟨x, hx, hsx⟩ := getL_out hs1 hk1
          refine wpIn_mono (ihy hb hly (hsx (says_clear hs1 hm1)) hmk1 (Nat.le_trans hB io1.size) hx) fun e a2 w2 hp2 => ?_
          exact hp2.up (fun e => hds1 (hrx e)) hry ((same_head hlo x σ).mono fun t ht => by simp [mods, ht]) (fun t ht => by simp [mods, ht]) io1 fun σ' ds' hs' hmk' hds' hm' io' hk' => ⟨σ', ds', hs', hmk', hds', hm', io', hk'⟩
        | ret => 
          obtain ⟨σ', ds', hs', hmk', hds', io', hk'⟩ := hp
          exact ⟨σ', ds', hs', hmk', fun e => hds' (hrx e), io', hk'⟩
        | exit id => 
          obtain ⟨σ', ds', k, hs', hmk', hds', hm', io', he, hk'⟩ := hp
          exact ⟨σ', ds', k, hs', hmk', fun e => hds' (hrx e), hm'.mono fun t ht => by simp [mods, ht], io', he, hk'⟩
        | _ => exact hp.elim
      · exact hk.elim
    | _ => exact hk.elim
  | cond op x y ihx ihy =>
    intro H ds lr B σ a w N E hlr hs hmk hB hk
    have hlx : lr = none ∨ hasRng x = false := hlr.imp id fun h => by simp only [hasRng, Bool.or_eq_false_iff] at h; exact h.1
    have hly : lr = none ∨ hasRng y = false := hlr.imp id fun h => by simp only [hasRng, Bool.or_eq_false_iff] at h; exact h.2
    cases H with
    | cond ha hb =>
      simp only [vc] at hk
      split at hk
      · rename_i t ht
        have hop := hs.eval ht
        rcases cnd_of hk with ⟨rfl, hk⟩ | ⟨rfl, hk⟩
        · exact wpIn_cond_true hop (wpIn_mono (ihx ha hlx hs hmk hB hk) fun e a' w' hp => hp.up0 (fun h => by simp only [hasRng, Bool.or_eq_false_iff] at h; exact h.1) (Same.refl _ _) (fun t ht => by simp [mods, ht]) (IO.refl w))
        · exact wpIn_cond_false hop (wpIn_mono (ihy hb hly hs hmk hB hk) fun e a' w' hp => hp.up0 (fun h => by simp only [hasRng, Bool.or_eq_false_iff] at h; exact h.2) (Same.refl _ _) (fun t ht => by simp [mods, ht]) (IO.refl w))
      · exact hk.elim
    | _ => exact hk.elim
  | block id x ih =>
    intro H ds lr B σ a w N E hlr hs hmk hB hk
    cases H with
    | block ha =>
      simp only [vc] at hk
      refine wpIn_block (wpIn_mono (ih ha hlr hs hmk hB hk) fun e a1 w1 hp => ?_)
      cases e with
      | normal => exact hp
      | ret => exact hp
      | exit id' =>
        obtain ⟨σ', ds', k, hs', hmk', hds', hm', io', he, hk'⟩ := hp
        simp only [Exit.inBlock]
        rw [at_cons] at he
        by_cases hid : id' = id
        · rw [if_pos hid]
          rw [if_pos hid.symm] at he
          cases he
          exact ⟨σ', ds', hs', hmk', hds', hm', io', hk'⟩
        · rw [if_neg hid]
          rw [if_neg (fun e => hid e.symm)] at he
          exact ⟨σ', ds', k, hs', hmk', hds', hm', io', he, hk'⟩
      | _ => exact hp.elim
    | _ => exact hk.elim
  | scope x ih =>
    intro H ds lr B σ a w N E hlr hs hmk hB hk
    cases H with
    | scope ha =>
      simp only [vc] at hk
      exact wpIn_scope (fun _ _ _ h => h) (ih ha hlr hs hmk hB hk)
    | _ => exact hk.elim
  | loop x ih =>
    intro H ds lr B σ a w N E hlr hs hmk hB hk
    cases H with
    | loop live ha =>
      simp only [vc] at hk
      split at hk
      · rename_i hlo
        obtain ⟨x0, ⟨k, hk⟩, hsx⟩ := getL_out hs hk
        refine wpIn_loop_n (fun k a' w' => ∃ y ds', Says ds' (addL live y (clearF (mods x) σ)) n a' ∧ Mk B ds' w'.heap ∧ (hasRng x = false → ds' = ds) ∧ IO w w' ∧ Lp (S := StL live × Hp) (fun s K =>
          vc P n ha x (addL live s.1 (clearF (mods x) σ)) s.2 (fun σ' h' => getL live σ' fun x => K (x, h')) E) k (y, w'.heap)) (fun a w h => ?_) (fun k a' w' h => ?_) k ⟨x0, ds, hsx (says_clear hs (Same.refl _ _)), hmk, fun _ => rfl, IO.refl w, hk⟩
        · obtain ⟨_, _, _, _, _, _, h⟩ := h; exact h
        · obtain ⟨y, ds1, hs1, hmk1, hds1, io1, h⟩ := h
          refine wpIn_mono (ih ha hlr hs1 hmk1 (Nat.le_trans hB io1.size) h) fun e a2 w2 hp => ?_
          cases e with
          | normal =>
            obtain ⟨σ2, ds2, hs2, hmk2, hds2, hm2, io2, hk2⟩ := hp
            obtain ⟨z, hz, hsz⟩ := getL_out hs2 hk2
            exact ⟨z, ds2, hsz (says_clear hs2 ((same_head hlo y σ).trans hm2)), hmk2, fun e => (hds2 e).trans (hds1 e), io1.trans io2, hz⟩
          | ret => obtain ⟨σ2, ds2, hs2, hmk2, hds2, io2, hk2⟩ := hp; exact ⟨σ2, ds2, hs2, hmk2, fun e => (hds2 e).trans (hds1 e), io1.trans io2, hk2⟩
          | exit id =>
            obtain ⟨σ2, ds2, k2, hs2, hmk2, hds2, hm2, io2, he, hk2⟩ := hp
            exact ⟨σ2, ds2, k2, hs2, hmk2, fun e => (hds2 e).trans (hds1 e), (same_head hlo y σ).trans hm2, io1.trans io2, he, hk2⟩
          | _ => exact hp.elim
      · exact hk.elim
    | _ => exact hk.elim
  | rangeFunc g ps assign body iha ihb =>
    intro H ds lr B σ a w N E hlr hs hmk hB hk
    have hlr : lr = none := hlr.resolve_right (by simp [hasRng])
    cases H with
    | rng p ha hb =>
      simp only [vc] at hk
      split at hk
      · rename_i hc
        simp only [Bool.and_eq_true, Bool.not_eq_true'] at hc
        obtain ⟨⟨⟨hra, hrb⟩, hps⟩, hpn⟩ := hc
        have hps : ps = #[p.1] := by
          unfold onePar at hps
          split at hps
          · rename_i u hu
            apply Array.ext'
            rw [hu, Nat.eq_of_beq_eq_true hps]
          · cases hps
        have hpn : p.1 < n := by
          have : p.1 + 1 ≤ n := by simpa [Nat.blt] using hpn
          omega
        have hk := (wv_out hs hk).2
        · refine rng_sound hlr hs hmk hB hps hpn rfl (fun {l σ a w N E} hs hk => ?_) (fun {l σ a w N E} hs hk => ?_) hk
          · have := iha ha (lr := some l) (B := 0) (.inr hra) hs ⟨fun d hd => (by cases hd), List.nodup_nil⟩ (Nat.zero_le _) hk
            rw [hra] at this; exact this
          · have := ihb hb (lr := some l) (B := 0) (.inr hrb) hs ⟨fun d hd => (by cases hd), List.nodup_nil⟩ (Nat.zero_le _) hk
            rw [hrb] at this; exact this
      · exact hk.elim
    | _ => exact hk.elim
  | _ => intro H ds lr B σ a w N E _ hs _ _ hk; cases H <;> exact hk.elim

/-! Functions. -/
def resVals (P : Program) (σ : AFr) (h : Hp) : List ResultVar → (List Value → Prop) → Prop
  | [], K => K []
  | .tmp t :: l, K => match σ.get t with
    | some v => resVals P σ h l fun vs => K (v :: vs)
    | none => False
  | .cell a t :: l, K => match σ.get a with
    | some (.pointer p) => someA p fun ad => ldH P t h ad fun v => resVals P σ h l fun vs => K (v :: vs)
    | _ => False
def resOne : List Value → Value
  | [v] => v
  | vs => .tuple vs.toArray
def retT : (shs : List Sh) → (St shs → Hp → Prop) → Value → Hp → Prop
  | [s], K => fun v h => s.un v fun x => K (x, ()) h
  | [], K => fun v h => match v with
    | .tuple vs => unS [] vs.toList fun x => K x h
    | _ => False
  | s :: u :: l, K => fun v h => match v with
    | .tuple vs => unS (s :: u :: l) vs.toList fun x => K x h
    | _ => False
def argF : Nat → List Value → AFr
  | _, [] => []
  | i, v :: l => (i, some v) :: argF (i + 1) l
/-- At the return of a function that holds a range over a function: the blocks of the rounds' deferred calls are shut. -/
def Rt (rg : Bool) (B : Nat) (h : Hp) (K : Hp → Prop) : Prop :=
  match rg with
  | true => ∀ h', Stp B h h' → K h'
  | false => K h
def bodyVC (P : Program) (fn : Func) (H : HT) (c : Code) (args : List Value) (h : Hp) (shs : List Sh) (K : St shs → Hp → Prop) : Prop :=
  match Nat.ble args.length fn.ntmps with
  | true => vc P fn.ntmps H c (argF 0 args) h (fun σ h1 => Rt (hasRng c) h.size h1 fun h1 => resVals P σ h1 fn.results.toList fun vs => retT shs K (resOne vs) h1)
      ⟨fun σ h1 => Rt (hasRng c) h.size h1 fun h1 => resVals P σ h1 fn.results.toList fun vs => retT shs K (resOne vs) h1, []⟩
  | false => False

theorem retT_out : ∀ {shs : List Sh} {K : St shs → Hp → Prop} {v : Value} {h : Hp}, retT shs K v h → ∃ s : St shs, v = mkRes shs s ∧ K s h
  | [s], K, v, h, hk => by
    obtain ⟨x, rfl, hk2⟩ := Sh.un_out (s := s) hk
    exact ⟨(x, ()), rfl, hk2⟩
  | [], K, v, h, hk => by
    cases v with
    | tuple vs =>
      obtain ⟨x, e, hk2⟩ := unS_out (l := []) hk
      exact ⟨x, by show Value.tuple vs = .tuple (vsS [] x).toArray; rw [← e], hk2⟩
    | _ => exact hk.elim
  | s :: u :: l, K, v, h, hk => by
    cases v with
    | tuple vs =>
      obtain ⟨x, e, hk2⟩ := unS_out (l := s :: u :: l) hk
      exact ⟨x, by show Value.tuple vs = .tuple (vsS (s :: u :: l) x).toArray; rw [← e], hk2⟩
    | _ => exact hk.elim

theorem resVals_run {P : Program} {σ : AFr} {n : Nat} {a : Act} (hs : Says ds σ n a) {w : World} : ∀ {l : List ResultVar} {K : List Value → Prop}, resVals P σ w.heap l K →
    ∃ vs, K vs ∧ vs.length = l.length ∧ (l.mapM fun (r : ResultVar) => match r with
      | .tmp t => (pure (a.tmps.getD t undef) : Sem Value)
      | .cell b t => do loadVar t (← asAddr (a.tmps.getD b undef))).run P w = .ok vs w
  | [], K, hk => ⟨[], hk, rfl, by simp⟩
  | .tmp t :: l, K, hk => by
    simp only [resVals] at hk
    split at hk
    · rename_i v hv
      obtain ⟨vs, hK, hl, hr⟩ := resVals_run hs hk
      have : a.tmps.getD t undef = v := hs.eval (x := .tmp t) hv
      refine ⟨v :: vs, hK, by simp [hl], ?_⟩
      rw [List.mapM_cons]
      simp only [this, Sem.run_bind, Sem.run_pure, Result.andThen_ok, hr]
    · exact hk.elim
  | .cell b t :: l, K, hk => by
    simp only [resVals] at hk
    split at hk
    · rename_i p hv
      obtain ⟨ad, rfl, hk2⟩ := someA_of hk
      obtain ⟨v, hk3, hrun⟩ := ldH_out hk2
      obtain ⟨vs, hK, hl, hr⟩ := resVals_run hs hk3
      have : a.tmps.getD b undef = .pointer (some ad) := hs.eval (x := .tmp b) hv
      have hrun := hrun w (fun _ _ e => e)
      simp only [Instr.loadAt, Instr.sureAddr, Sem.run_bind, Sem.run_pure, Result.andThen_ok] at hrun
      refine ⟨v :: vs, hK, by simp [hl], ?_⟩
      rw [List.mapM_cons]
      have ha : asAddr (a.tmps.getD b undef) = pure ad := by rw [this]; rfl
      simp only [ha, Sem.run_bind, Sem.run_pure, Result.andThen_ok, hrun, hr]
    · exact hk.elim

theorem argF_get : ∀ {args : List Value} {i t : Nat} {v : Value}, (argF i args).get t = some v → i ≤ t ∧ args[t - i]? = some v
  | [], i, t, v, h => by cases h
  | u :: l, i, t, v, h => by
    simp only [argF, AFr.get_cons] at h
    by_cases e : i = t
    · subst e; rw [if_pos rfl] at h; cases h; exact ⟨Nat.le_refl _, by simp⟩
    · rw [if_neg e] at h
      obtain ⟨h1, h2⟩ := argF_get h
      refine ⟨by omega, ?_⟩
      rw [show t - i = (t - (i + 1)) + 1 by omega]; simpa using h2

theorem run_results {P : Program} {fn : Func} {n : Nat} {σ : AFr} {a : Act} {shs : List Sh} {K : St shs → Hp → Prop} (hs : Says ds σ n a) {w' : World} (hr : resVals P σ w'.heap fn.results.toList (fun vs => retT shs K (resOne vs) w'.heap)) :
    ∃ v, (results fn a.tmps).run P w' = .ok v w' ∧ ∃ s : St shs, v = mkRes shs s ∧ K s w'.heap := by
  obtain ⟨vs, hK, hl, hrun⟩ := resVals_run hs hr
  refine ⟨resOne vs, ?_, retT_out hK⟩
  unfold results
  rw [Array.mapM_eq_mapM_toList]
  simp only [Sem.run_bind, Sem.run_map, Sem.run_pure]
  refine (congrArg (fun r : Result (List Value) => (r.andThen fun a w' => Result.ok a.toArray w').andThen fun a w' => Result.ok (if h : a.size = 1 then a[0] else .tuple a) w') hrun).trans ?_
  clear hrun hK hr
  match vs, hl with
  | [], _ => rfl
  | [v], _ => rfl
  | _ :: _ :: _, _ => rfl
theorem IO.shut {w : World} {D : Nat} (h : w.heap[D]? = some (.deferred (some []))) {B : Nat} {w0 : World} (io : IO w0 w) (hB : w0.heap.size ≤ B) (hD : B ≤ D) : IO w0 (w.putObj D (.deferred none)) :=
  ⟨io.os, io.tape, io.output, io.drawn, by have := io.size; simpa using this, fun k ds hk => by
    have := (Array.getElem?_eq_some_iff.1 hk).1
    rw [World.putObj_heap_other (by omega)]; exact io.dfr k ds hk⟩
theorem Stp.shut {B : Nat} {w : World} {D : Nat} (h : w.heap[D]? = some (.deferred (some []))) (hB : B ≤ D) : Stp B w.heap (w.putObj D (.deferred none)).heap :=
  ⟨by simp, fun k hk => World.putObj_heap_other (by omega), fun k c e fr hk => World.putObj_heap_other fun e => by subst e; rw [h] at hk; cases hk⟩
theorem leaves {P : Program} {fn : Func} {n : Nat} {σ : AFr} {a : Act} {shs : List Sh} {K : St shs → Hp → Prop} {w0 : World} {ds0 : List Deferred} (hs : Says ds0 σ n a) : ∀ (ds : List Deferred) {w' : World}, IO w0 w' → Mk w0.heap.size ds w'.heap →
    (∀ h', Stp w0.heap.size w'.heap h' → resVals P σ h' fn.results.toList fun vs => retT shs K (resOne vs) h') →
    LeavesInM (FF none) 0 P fn a.tmps (fun e w' => ∃ v, e = .returned v ∧ IO w0 w' ∧ ∃ s : St shs, v = mkRes shs s ∧ K s w'.heap) ds .returning w'
  | [], w', io, _, hr => by
    obtain ⟨v, h1, s, h2, h3⟩ := run_results hs (hr _ (Stp.refl _ _))
    exact ⟨v, h1, v, rfl, io, s, h2, h3⟩
  | d :: ds, w', io, hmk, hr => by
    obtain ⟨D, rfl, hB, hD⟩ := hmk.1 d (by simp)
    refine ⟨by simp, .inl ⟨D, _, rfl, run_takeDeferred hD, leaves hs ds (IO.shut hD io (Nat.le_refl _) hB) ⟨fun d hd => ?_, (List.nodup_cons.1 hmk.2).2⟩ fun h' st => hr h' ((Stp.shut hD hB).trans st)⟩⟩
    obtain ⟨D', rfl, hB', hD'⟩ := hmk.1 d (by simp [hd])
    refine ⟨D', rfl, hB', ?_⟩
    rw [World.putObj_heap_other]
    · exact hD'
    · intro e
      subst e
      exact (List.nodup_cons.1 hmk.2).1 hd

theorem fun_sound {P : Program} (hmix : P.follows .mixedOrders = true) {f : FuncId} {fn : Func} {c : Code} {H : HT} {args : List Value} {h : Hp} {shs : List Sh} {K : St shs → Hp → Prop}
    (hf : P.funcs[f]? = some fn) (hb : fn.body = some c) (hk : bodyVC P fn H c args h shs K) : CallT P f args shs h K := by
  unfold bodyVC at hk
  split at hk
  · rename_i hle
    have hle := Nat.le_of_ble_eq_true hle
    intro w hw
    subst hw
    have hs : Says [] (argF 0 args) fn.ntmps { tmps := args.toArray ++ Array.replicate (fn.ntmps - args.toArray.size) undef, defers := [] } := by
      refine ⟨rfl, by simp; omega, fun t v e => ?_⟩
      obtain ⟨_, h2⟩ := argF_get e
      rw [Nat.sub_zero] at h2
      have hlt : t < args.length := (List.getElem?_eq_some_iff.1 h2).1
      rw [Array.getElem?_append_left (by simpa using hlt)]
      simpa using h2
    have fin : ∀ {σ ds' a w'}, Says ds' σ fn.ntmps a → Mk w.heap.size ds' w'.heap → (hasRng c = false → ds' = []) → IO w w' → Rt (hasRng c) w.heap.size w'.heap (fun h1 => resVals P σ h1 fn.results.toList (fun vs => retT shs K (resOne vs) h1)) →
        LeavesInM (FF none) 0 P fn a.tmps (fun e w' => ∃ v, e = .returned v ∧ IO w w' ∧ ∃ s : St shs, v = mkRes shs s ∧ K s w'.heap) a.defers .returning w' := by
      intro σ ds' a w' hs hmk hds io hr
      rw [hs.defers]
      unfold Rt at hr
      split at hr
      · exact leaves hs ds' io hmk hr
      · rename_i hno
        obtain rfl := hds hno
        obtain ⟨v, h1, s, h2, h3⟩ := run_results hs hr
        exact ⟨v, h1, v, rfl, io, s, h2, h3⟩
    refine (callsIn_wide (n := 0)).1 (callsIn_of_wp_marks (F := FF none) hf hb trivial (wpIn_mono (vc_sound hmix c H (.inl rfl) hs ⟨fun d hd => (by cases hd), List.nodup_nil⟩ (Nat.le_refl _) hk) fun e a w' hp => ?_))
    cases e with
    | normal =>
      obtain ⟨σ', ds', hs', hmk', hds', _, io, hr⟩ := hp
      exact fin hs' hmk' hds' io hr
    | ret =>
      obtain ⟨σ', ds', hs', hmk', hds', io, hr⟩ := hp
      exact fin hs' hmk' hds' io hr
    | exit id =>
      obtain ⟨σ', ds', k, _, _, _, _, _, he, _⟩ := hp
      cases he
    | _ => exact hp.elim
  · exact hk.elim
end Go.Proofs.YtlkaipmhjgfkpaaDoorK
