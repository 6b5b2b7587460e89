/- The sixth part of the layer: code, loops, joins, functions. No condition. -/
import Derived.Test.YtmepenlhjekppaaK5b
namespace Go.Proofs.YtmepenlhjekppaaK
open Go
set_option linter.unusedSimpArgs false
set_option linter.unusedVariables false

abbrev Live := List (Nat × Sh)
inductive HT where
  | no
  | seq (a b : HT)
  | join (live : Live) (a b : HT)
  | cond (a b : HT)
  | block (a : HT)
  | loop (live : Live) (a : HT)
@[reducible] def StL : Live → Type
  | [] => Unit
  | p :: l => p.2.T × StL l
def addL : (l : Live) → StL l → AFr → AFr
  | [], _, σ => σ
  | p :: l, x, σ => (p.1, some (p.2.v x.1)) :: addL l x.2 σ
def getL : (l : Live) → AFr → (StL l → Prop) → Prop
  | [], _, K => K ()
  | p :: l, σ, K => match σ.get p.1 with
    | some v => p.2.un v fun x => getL l σ fun y => K (x, y)
    | none => False
def hasN : List Nat → Nat → Bool
  | [], _ => false
  | u :: l, t => match Nat.beq u t with
    | true => true
    | false => hasN l t
def clearF (ms : List Nat) : AFr → AFr
  | [] => []
  | (u, v) :: σ => match hasN ms u with
    | true => clearF ms σ
    | false => (u, v) :: clearF ms σ
def mods : Code → List Nat
  | .region _ ops _ => ops.toList.filterMap (·.dst)
  | .seq a b => mods a ++ mods b
  | .cond _ a b => mods a ++ mods b
  | .block _ a => mods a
  | .loop a => mods a
  | _ => []
structure Ex where
  ret : AFr → Hp → Prop
  ex : List (Nat × (AFr → Hp → Prop))
def Ex.at (l : List (Nat × (AFr → Hp → Prop))) (id : Nat) : Option (AFr → Hp → Prop) :=
  match l with
  | [] => none
  | (u, k) :: l => match Nat.beq u id with
    | true => some k
    | false => Ex.at l id
/-- A loop, as often as n rounds. -/
def Lp {S : Type} (step : S → (S → Prop) → Prop) : Nat → S → Prop
  | 0, _ => False
  | n + 1, s => step s (Lp step n)
def Jn {α : Sort _} (J : α) (k : α → Prop) : Prop := k J
def liveOk (ms : List Nat) (l : Live) : Bool := l.all fun p => hasN ms p.1

def vc (P : Program) (n : Nat) : HT → Code → AFr → Hp → (AFr → Hp → Prop) → Ex → Prop
  | _, .skip, σ, h, N, _ => N σ h
  | _, .ret, σ, h, _, E => E.ret σ h
  | _, .exit id, σ, h, _, E => match Ex.at E.ex id with
    | some k => k σ h
    | none => False
  | _, .region _ ops false, σ, h, N, _ => vcOps P n ops ops.toList σ h N
  | _, .region _ ops true, σ, h, N, _ => match drawOk P n ops (ancL ops.toList []) && noSelect ops with
    | true => vcDr P n ops (ancL ops.toList []) 0 ops.toList σ h [] h N
    | false => False
  | .seq ha hb, .seq a b, σ, h, N, E => vc P n ha a σ h (fun σ' h' => vc P n hb b σ' h' N E) E
  | .join live ha hb, .seq a b, σ, h, N, E => match liveOk (mods a) live with
    | true => Jn (fun (x : StL live) (h' : Hp) => vc P n hb b (addL live x (clearF (mods a) σ)) h' N E) fun J =>
        vc P n ha a σ h (fun σ' h' => getL live σ' fun x => J x h') E
    | false => False
  | .cond ha hb, .cond c a b, σ, h, N, E => match ev σ c with
    | some (.bool t) => cnd t (vc P n ha a σ h N E) (vc P n hb b σ h N E)
    | _ => False
  | .block ha, .block id a, σ, h, N, E => vc P n ha a σ h N { E with ex := (id, N) :: E.ex }
  | .loop live ha, .loop a, σ, h, N, E => match liveOk (mods a) live with
    | true => getL live σ fun x0 => ∃ k, Lp (S := StL live × Hp) (fun s K =>
        vc P n ha a (addL live s.1 (clearF (mods a) σ)) s.2 (fun σ' h' => getL live σ' fun x => K (x, h')) E) k (x0, h)
    | false => False
  | _, _, _, _, _, _ => False

def Same (ms : List Nat) (σ σ' : AFr) : Prop := ∀ t, hasN ms t = false → σ'.get t = σ.get t
theorem Same.refl (ms : List Nat) (σ : AFr) : Same ms σ σ := fun _ _ => rfl
theorem Same.trans {ms : List Nat} {a b c : AFr} (h : Same ms a b) (k : Same ms b c) : Same ms a c := fun t ht => (k t ht).trans (h t ht)
theorem hasN_iff {l : List Nat} {t : Nat} : hasN l t = true ↔ t ∈ l := by
  induction l with
  | nil => simp [hasN]
  | cons u l ih =>
    simp only [hasN, List.mem_cons]
    split
    · rename_i h; simp [Nat.eq_of_beq_eq_true h]
    · rename_i h
      have := Nat.ne_of_beq_eq_false h
      rw [ih]; constructor
      · exact .inr
      · rintro (e | e)
        · exact (this e.symm).elim
        · exact e
theorem hasN_false {l : List Nat} {t : Nat} : hasN l t = false ↔ t ∉ l := by
  rw [← hasN_iff]; simp
theorem Same.mono {ms ms' : List Nat} {a b : AFr} (h : Same ms a b) (hm : ∀ t, t ∈ ms → t ∈ ms') : Same ms' a b :=
  fun t ht => h t (hasN_false.2 fun h' => hasN_false.1 ht (hm t h'))

theorem get_clear {ms : List Nat} {σ : AFr} {t : Nat} : (clearF ms σ).get t = if hasN ms t = true then none else σ.get t := by
  induction σ with
  | nil => simp [clearF, AFr.get]
  | cons p σ ih =>
    obtain ⟨u, v⟩ := p
    simp only [clearF]
    split
    · rename_i hu
      rw [ih, AFr.get_cons]
      by_cases e : u = t
      · subst e; simp [hu]
      · simp [e]
    · rename_i hu
      rw [AFr.get_cons, AFr.get_cons, ih]
      by_cases e : u = t
      · subst e; simp [hu]
      · simp [e]
theorem get_addL {t : Nat} : ∀ {l : Live} {x : StL l} {σ : AFr}, t ∉ l.map (·.1) → (addL l x σ).get t = σ.get t
  | [], _, _, _ => rfl
  | p :: l, x, σ, h => by
    simp only [List.map_cons, List.mem_cons, not_or] at h
    simp only [addL, AFr.get_cons]
    rw [if_neg (fun e => h.1 e.symm), get_addL h.2]

theorem getL_out {n : Nat} {a : Act} {σ' : AFr} (hs : Says σ' n a) : ∀ {l : Live} {K : StL l → Prop}, getL l σ' K →
    ∃ x, K x ∧ ∀ {σ}, Says σ n a → Says (addL l x σ) n a
  | [], K, h => ⟨(), h, fun h => h⟩
  | p :: l, K, h => by
    simp only [getL] at h
    split at h
    · rename_i v hv
      obtain ⟨x, rfl, h2⟩ := Sh.un_out h
      obtain ⟨y, hK, hy⟩ := getL_out hs h2
      refine ⟨(x, y), hK, fun hσ => ?_⟩
      exact (hy hσ).note (hs.get _ _ hv)
    · exact h.elim

theorem says_clear {n : Nat} {a : Act} {ms : List Nat} {σ σ' : AFr} (hs : Says σ' n a) (hm : Same ms σ σ') : Says (clearF ms σ) n a :=
  ⟨hs.defers, hs.size, fun t v e => by
    rw [get_clear] at e
    by_cases h : hasN ms t = true
    · rw [if_pos h] at e; cases e
    · rw [if_neg h] at e
      exact hs.get t v (by rw [hm t (by simpa using h)]; exact e)⟩
theorem liveOk_out {ms : List Nat} {l : Live} (h : liveOk ms l = true) {t : Nat} (ht : hasN ms t = false) : t ∉ l.map (·.1) := by
  intro hm
  obtain ⟨p, hp, rfl⟩ := List.mem_map.1 hm
  have := List.all_eq_true.1 h p hp
  rw [this] at ht; cases ht
theorem same_head {ms : List Nat} {l : Live} (h : liveOk ms l = true) (x : StL l) (σ : AFr) : Same ms σ (addL l x (clearF ms σ)) := by
  intro t ht
  rw [get_addL (liveOk_out h ht), get_clear, if_neg (by simp [ht])]

/-- What holds where a piece of code is left. -/
def Post (n : Nat) (ms : List Nat) (σ : AFr) (w0 : World) (N : AFr → Hp → Prop) (E : Ex) : Exit → Act → World → Prop
  | .normal, a, w => ∃ σ', Says σ' n a ∧ Same ms σ σ' ∧ IO w0 w ∧ N σ' w.heap
  | .ret, a, w => ∃ σ', Says σ' n a ∧ IO w0 w ∧ E.ret σ' w.heap
  | .exit id, a, w => ∃ σ' k, Says σ' n a ∧ Same ms σ σ' ∧ IO w0 w ∧ Ex.at E.ex id = some k ∧ k σ' w.heap
  | _, _, _ => False

theorem same_put {ms : List Nat} {σ : AFr} {d : Option Tmp} {v : Option Value} (h : ∀ t, d = some t → t ∈ ms) : Same ms σ (σ.put d v) := by
  intro t ht
  cases d with
  | none => rfl
  | some d =>
    simp only [AFr.put, AFr.get_cons]
    rw [if_neg]
    intro e
    exact hasN_false.1 ht (e ▸ h d rfl)

theorem same_ops {ops : Array Oper} {σ σ' : AFr} (h : SameO ops σ σ') : Same (ops.toList.filterMap (·.dst)) σ σ' := by
  intro t ht
  refine h t fun o ho hd => ?_
  exact hasN_false.1 ht (List.mem_filterMap.2 ⟨o, ho, hd⟩)

theorem Post.up {n : Nat} {ms ms' : List Nat} {σ σ1 : AFr} {w0 w1 : World} {N N' : AFr → Hp → Prop} {E : Ex} (hm : Same ms' σ σ1) (hms : ∀ t, t ∈ ms → t ∈ ms') (io : IO w0 w1) {e : Exit} {a : Act} {w : World}
    (hN : ∀ σ' , Says σ' n a → Same ms' σ σ' → IO w0 w → N σ' w.heap → Post n ms' σ w0 N' E .normal a w) (h : Post n ms σ1 w1 N E e a w) : Post n ms' σ w0 N' E e a w := by
  cases e with
  | normal =>
    obtain ⟨σ', hs, hm', io', hk⟩ := h
    exact hN σ' hs (hm.trans (hm'.mono hms)) (io.trans io') hk
  | ret =>
    obtain ⟨σ', hs, io', hk⟩ := h
    exact ⟨σ', hs, io.trans io', hk⟩
  | exit id =>
    obtain ⟨σ', k, hs, hm', io', he, hk⟩ := h
    exact ⟨σ', k, hs, hm.trans (hm'.mono hms), io.trans io', he, hk⟩
  | _ => exact h.elim

theorem wp_loop_n {P : Program} {c : Code} {Q : Exit → Act → World → Prop} (I : Nat → Act → World → Prop) (h0 : ∀ a w, ¬ I 0 a w)
    (round : ∀ k a w, I (k + 1) a w → c.wp P (Exit.then (I k) Q) a w) : ∀ (k : Nat) {a : Act} {w : World}, I k a w → (Code.loop c).wp P Q a w := by
  intro k a w hI b ks cs
  have key : ∀ k a w, I k a w → ∃ e a' w', Q e a' w' ∧ Arrives P (lone (b.at a (.code c :: .inLoop c :: ks)) cs w) b ks cs e a' w' := by
    intro k
    induction k with
    | zero => exact fun a w h => (h0 a w h).elim
    | succ k ih =>
      intro a w hI
      obtain ⟨e, a₁, w₁, hq, harr⟩ := round k a w hI b (.inLoop c :: ks) cs
      cases e with
      | normal =>
        obtain ⟨e₂, a₂, w₂, hq₂, harr₂⟩ := ih a₁ w₁ hq
        exact ⟨e₂, a₂, w₂, hq₂, .of_steps (Steps.trans harr (.one step_inLoop)) harr₂⟩
      | exit id => exact ⟨_, a₁, w₁, hq, .pass (x := .inLoop c) rfl (fun _ _ => .inl (by simp)) harr⟩
      | goto l => exact ⟨_, a₁, w₁, hq, .pass (x := .inLoop c) rfl (fun _ _ => .inl (by simp)) harr⟩
      | ret => exact ⟨_, a₁, w₁, hq, .pass (x := .inLoop c) rfl (fun _ _ => .inl (by simp)) harr⟩
      | panic ch => exact ⟨_, a₁, w₁, hq, .pass (x := .inLoop c) rfl (fun _ _ => .inl (by simp)) harr⟩
      | outgrown => exact ⟨_, a₁, w₁, hq, .pass (x := .inLoop c) rfl (fun _ _ => .inl (by simp)) harr⟩
  obtain ⟨e, a', w', hq, harr⟩ := key k a w hI
  exact ⟨e, a', w', hq, .of_steps (.one step_loop) harr⟩

theorem at_cons {id id' : Nat} {k : AFr → Hp → Prop} {l : List (Nat × (AFr → Hp → Prop))} : Ex.at ((id, k) :: l) id' = if id = id' then some k else Ex.at l id' := by
  simp only [Ex.at]
  split
  · rename_i h; rw [if_pos (Nat.eq_of_beq_eq_true h)]
  · rename_i h; rw [if_neg (Nat.ne_of_beq_eq_false h)]

theorem vc_sound {P : Program} (hmix : P.follows .mixedOrders = true) {n : Nat} : ∀ (c : Code) (H : HT) {σ : AFr} {a : Act} {w : World} {N : AFr → Hp → Prop} {E : Ex}, Says σ n a → vc P n H c σ w.heap N E →
    c.wp P (Post n (mods c) σ w N E) a w := by
  intro c
  induction c with
  | skip =>
    intro H σ a w N E hs hk
    have hk : N σ w.heap := by cases H <;> exact hk
    exact wp_skip ⟨σ, hs, Same.refl _ _, IO.refl w, hk⟩
  | ret =>
    intro H σ a w N E hs hk
    have hk : E.ret σ w.heap := by cases H <;> exact hk
    exact wp_ret ⟨σ, hs, IO.refl w, hk⟩
  | exit id =>
    intro H σ a w N E hs hk
    have hk : (match Ex.at E.ex id with | some k => k σ w.heap | none => False) := by cases H <;> exact hk
    split at hk
    · rename_i k he
      exact wp_exit ⟨σ, k, hs, Same.refl _ _, IO.refl w, he, hk⟩
    · exact hk.elim
  | region id ops draw =>
    intro H σ a w N E hs hk
    cases draw with
    | false =>
      have hk : vcOps P n ops ops.toList σ w.heap N := by cases H <;> exact hk
      refine wp_region (vcOps_wp ops.toList _ ?_ hs hk fun σ' a' w' hs' hm io hK => ⟨σ', hs', same_ops hm, io, hK⟩)
      apply List.ext_getElem?
      intro i
      simp only [List.getElem?_map, Array.getElem?_toList]
      by_cases hi : i < ops.size
      · rw [List.getElem?_eq_getElem (by simpa using hi), Array.getElem?_eq_getElem hi]; simp [Array.getElem?_eq_getElem hi]
      · rw [List.getElem?_eq_none (by simpa using hi), Array.getElem?_eq_none (by omega)]; rfl
    | true =>
      have hk : (match drawOk P n ops (ancL ops.toList []) && noSelect ops with
        | true => vcDr P n ops (ancL ops.toList []) 0 ops.toList σ w.heap [] w.heap N
        | false => False) := by cases H <;> exact hk
      split at hk
      · rename_i hok
        rw [Bool.and_eq_true] at hok
        exact vcDr_wp hmix hok.1 hok.2 hs hk fun σ' a' w' hs' hm io hK => ⟨σ', hs', same_ops hm, io, hK⟩
      · exact hk.elim
  | seq x y ihx ihy =>
    intro H σ a w N E hs hk
    cases H with
    | seq ha hb =>
      simp only [vc] at hk
      refine wp_seq (wp_mono (ihx ha hs hk) fun e a1 w1 hp => ?_)
      cases e with
      | normal =>
        obtain ⟨σ1, hs1, hm1, io1, hk1⟩ := hp
        refine wp_mono (ihy hb hs1 hk1) fun e a2 w2 hp2 => ?_
        exact hp2.up (hm1.mono fun t ht => by simp [mods, ht]) (fun t ht => by simp [mods, ht]) io1 fun σ' hs' hm' io' hk' => ⟨σ', hs', hm', io', hk'⟩
      | ret => exact hp
      | exit id => 
        obtain ⟨σ', k, hs', hm', io', he, hk'⟩ := hp
        exact ⟨σ', k, hs', hm'.mono fun t ht => by simp [mods, ht], io', he, hk'⟩
      | _ => exact hp.elim
    | join live ha hb =>
      simp only [vc] at hk
      split at hk
      · rename_i hlo
        unfold Jn at hk
        refine wp_seq (wp_mono (ihx ha hs hk) fun e a1 w1 hp => ?_)
        cases e with
        | normal =>
          obtain ⟨σ1, hs1, hm1, io1, hk1⟩ := hp
          obtain ⟨x, hx, hsx⟩ := getL_out hs1 hk1
          refine wp_mono (ihy hb (hsx (says_clear hs1 hm1)) hx) fun e a2 w2 hp2 => ?_
          exact hp2.up ((same_head hlo x σ).mono fun t ht => by simp [mods, ht]) (fun t ht => by simp [mods, ht]) io1 fun σ' hs' hm' io' hk' => ⟨σ', hs', hm', io', hk'⟩
        | ret => exact hp
        | exit id => 
          obtain ⟨σ', k, hs', hm', io', he, hk'⟩ := hp
          exact ⟨σ', k, hs', hm'.mono fun t ht => by simp [mods, ht], io', he, hk'⟩
        | _ => exact hp.elim
      · exact hk.elim
    | _ => exact hk.elim
  | cond op x y ihx ihy =>
    intro H σ a w N E hs hk
    cases H with
    | cond ha hb =>
      simp only [vc] at hk
      split at hk
      · rename_i t ht
        have hop := hs.eval ht
        have up : ∀ {ms : List Nat}, (∀ t, t ∈ ms → t ∈ mods (.cond op x y)) → ∀ e a' w', Post n ms σ w N E e a' w' → Post n (mods (.cond op x y)) σ w N E e a' w' := fun hms e a' w' hp =>
          hp.up (Same.refl _ _) hms (IO.refl w) fun σ' hs' hm' io' hk' => ⟨σ', hs', hm', io', hk'⟩
        rcases cnd_of hk with ⟨rfl, hk⟩ | ⟨rfl, hk⟩
        · exact wp_cond_true hop (wp_mono (ihx ha hs hk) (up fun t ht => by simp [mods, ht]))
        · exact wp_cond_false hop (wp_mono (ihy hb hs hk) (up fun t ht => by simp [mods, ht]))
      · exact hk.elim
    | _ => exact hk.elim
  | block id x ih =>
    intro H σ a w N E hs hk
    cases H with
    | block ha =>
      simp only [vc] at hk
      refine wp_block (wp_mono (ih ha hs hk) fun e a1 w1 hp => ?_)
      cases e with
      | normal => exact hp
      | ret => exact hp
      | exit id' =>
        obtain ⟨σ', k, hs', hm', io', he, hk'⟩ := hp
        simp only [Exit.inBlock]
        rw [at_cons] at he
        by_cases hid : id' = id
        · rw [if_pos hid]
          rw [if_pos hid.symm] at he
          cases he
          exact ⟨σ', hs', hm', io', hk'⟩
        · rw [if_neg hid]
          rw [if_neg (fun e => hid e.symm)] at he
          exact ⟨σ', k, hs', hm', io', he, hk'⟩
      | _ => exact hp.elim
    | _ => exact hk.elim
  | loop x ih =>
    intro H σ a w N E hs hk
    cases H with
    | loop live ha =>
      simp only [vc] at hk
      split at hk
      · rename_i hlo
        obtain ⟨x0, ⟨k, hk⟩, hsx⟩ := getL_out hs hk
        refine wp_loop_n (fun k a' w' => ∃ y, Says (addL live y (clearF (mods x) σ)) n a' ∧ IO w w' ∧ Lp (S := StL live × Hp) (fun s K =>
          vc P n ha x (addL live s.1 (clearF (mods x) σ)) s.2 (fun σ' h' => getL live σ' fun x => K (x, h')) E) k (y, w'.heap)) (fun a w h => ?_) (fun k a' w' h => ?_) k ⟨x0, hsx (says_clear hs (Same.refl _ _)), IO.refl w, hk⟩
        · obtain ⟨_, _, _, h⟩ := h; exact h
        · obtain ⟨y, hs1, io1, h⟩ := h
          refine wp_mono (ih ha hs1 h) fun e a2 w2 hp => ?_
          cases e with
          | normal =>
            obtain ⟨σ2, hs2, hm2, io2, hk2⟩ := hp
            obtain ⟨z, hz, hsz⟩ := getL_out hs2 hk2
            exact ⟨z, hsz (says_clear hs2 ((same_head hlo y σ).trans hm2)), io1.trans io2, hz⟩
          | ret => obtain ⟨σ2, hs2, io2, hk2⟩ := hp; exact ⟨σ2, hs2, io1.trans io2, hk2⟩
          | exit id =>
            obtain ⟨σ2, k2, hs2, hm2, io2, he, hk2⟩ := hp
            exact ⟨σ2, k2, hs2, (same_head hlo y σ).trans hm2, io1.trans io2, he, hk2⟩
          | _ => exact hp.elim
      · exact hk.elim
    | _ => exact hk.elim
  | _ => intro H σ a w N E hs hk; cases H <;> exact hk.elim

/-! Functions. -/
def resVals (P : Program) (σ : AFr) (h : Hp) : List ResultVar → (List Value → Prop) → Prop
  | [], K => K []
  | .tmp t :: l, K => match σ.get t with
    | some v => resVals P σ h l fun vs => K (v :: vs)
    | none => False
  | .cell a t :: l, K => match σ.get a with
    | some (.pointer p) => someA p fun ad => ldH P t h ad fun v => resVals P σ h l fun vs => K (v :: vs)
    | _ => False
def resOne : List Value → Value
  | [v] => v
  | vs => .tuple vs.toArray
def retT : (shs : List Sh) → (St shs → Hp → Prop) → Value → Hp → Prop
  | [s], K => fun v h => s.un v fun x => K (x, ()) h
  | [], K => fun v h => match v with
    | .tuple vs => unS [] vs.toList fun x => K x h
    | _ => False
  | s :: u :: l, K => fun v h => match v with
    | .tuple vs => unS (s :: u :: l) vs.toList fun x => K x h
    | _ => False
def argF : Nat → List Value → AFr
  | _, [] => []
  | i, v :: l => (i, some v) :: argF (i + 1) l
def bodyVC (P : Program) (fn : Func) (H : HT) (c : Code) (args : List Value) (h : Hp) (shs : List Sh) (K : St shs → Hp → Prop) : Prop :=
  match Nat.ble args.length fn.ntmps with
  | true => vc P fn.ntmps H c (argF 0 args) h (fun σ h => resVals P σ h fn.results.toList fun vs => retT shs K (resOne vs) h) ⟨fun σ h => resVals P σ h fn.results.toList fun vs => retT shs K (resOne vs) h, []⟩
  | false => False
/-- A call of a function, its results by their types. -/
def CallT (P : Program) (f : FuncId) (args : List Value) (shs : List Sh) (h : Hp) (K : St shs → Hp → Prop) : Prop :=
  CallsH P f args.toArray h fun v h' => ∃ s : St shs, v = mkRes shs s ∧ K s h'

theorem retT_out : ∀ {shs : List Sh} {K : St shs → Hp → Prop} {v : Value} {h : Hp}, retT shs K v h → ∃ s : St shs, v = mkRes shs s ∧ K s h
  | [s], K, v, h, hk => by
    obtain ⟨x, rfl, hk2⟩ := Sh.un_out (s := s) hk
    exact ⟨(x, ()), rfl, hk2⟩
  | [], K, v, h, hk => by
    cases v with
    | tuple vs =>
      obtain ⟨x, e, hk2⟩ := unS_out (l := []) hk
      exact ⟨x, by show Value.tuple vs = .tuple (vsS [] x).toArray; rw [← e], hk2⟩
    | _ => exact hk.elim
  | s :: u :: l, K, v, h, hk => by
    cases v with
    | tuple vs =>
      obtain ⟨x, e, hk2⟩ := unS_out (l := s :: u :: l) hk
      exact ⟨x, by show Value.tuple vs = .tuple (vsS (s :: u :: l) x).toArray; rw [← e], hk2⟩
    | _ => exact hk.elim

theorem resVals_run {P : Program} {σ : AFr} {n : Nat} {a : Act} (hs : Says σ n a) {w : World} : ∀ {l : List ResultVar} {K : List Value → Prop}, resVals P σ w.heap l K →
    ∃ vs, K vs ∧ vs.length = l.length ∧ (l.mapM fun (r : ResultVar) => match r with
      | .tmp t => (pure (a.tmps.getD t undef) : Sem Value)
      | .cell b t => do loadVar t (← asAddr (a.tmps.getD b undef))).run P w = .ok vs w
  | [], K, hk => ⟨[], hk, rfl, by simp⟩
  | .tmp t :: l, K, hk => by
    simp only [resVals] at hk
    split at hk
    · rename_i v hv
      obtain ⟨vs, hK, hl, hr⟩ := resVals_run hs hk
      have : a.tmps.getD t undef = v := hs.eval (x := .tmp t) hv
      refine ⟨v :: vs, hK, by simp [hl], ?_⟩
      rw [List.mapM_cons]
      simp only [this, Sem.run_bind, Sem.run_pure, Result.andThen_ok, hr]
    · exact hk.elim
  | .cell b t :: l, K, hk => by
    simp only [resVals] at hk
    split at hk
    · rename_i p hv
      obtain ⟨ad, rfl, hk2⟩ := someA_of hk
      obtain ⟨v, hk3, hrun⟩ := ldH_out hk2
      obtain ⟨vs, hK, hl, hr⟩ := resVals_run hs hk3
      have : a.tmps.getD b undef = .pointer (some ad) := hs.eval (x := .tmp b) hv
      have hrun := hrun w (Ext.refl _)
      simp only [Instr.loadAt, Instr.sureAddr, Sem.run_bind, Sem.run_pure, Result.andThen_ok] at hrun
      refine ⟨v :: vs, hK, by simp [hl], ?_⟩
      rw [List.mapM_cons]
      have ha : asAddr (a.tmps.getD b undef) = pure ad := by rw [this]; rfl
      simp only [ha, Sem.run_bind, Sem.run_pure, Result.andThen_ok, hrun, hr]
    · exact hk.elim

theorem argF_get : ∀ {args : List Value} {i t : Nat} {v : Value}, (argF i args).get t = some v → i ≤ t ∧ args[t - i]? = some v
  | [], i, t, v, h => by cases h
  | u :: l, i, t, v, h => by
    simp only [argF, AFr.get_cons] at h
    by_cases e : i = t
    · subst e; rw [if_pos rfl] at h; cases h; exact ⟨Nat.le_refl _, by simp⟩
    · rw [if_neg e] at h
      obtain ⟨h1, h2⟩ := argF_get h
      refine ⟨by omega, ?_⟩
      rw [show t - i = (t - (i + 1)) + 1 by omega]; simpa using h2

theorem fun_sound {P : Program} (hmix : P.follows .mixedOrders = true) {f : FuncId} {fn : Func} {c : Code} {H : HT} {args : List Value} {h : Hp} {shs : List Sh} {K : St shs → Hp → Prop}
    (hf : P.funcs[f]? = some fn) (hb : fn.body = some c) (hk : bodyVC P fn H c args h shs K) : CallT P f args shs h K := by
  unfold bodyVC at hk
  split at hk
  · rename_i hle
    have hle := Nat.le_of_ble_eq_true hle
    intro w hw
    subst hw
    have hs : Says (argF 0 args) fn.ntmps { tmps := args.toArray ++ Array.replicate (fn.ntmps - args.toArray.size) undef, defers := [] } := by
      refine ⟨rfl, by simp; omega, fun t v e => ?_⟩
      obtain ⟨_, h2⟩ := argF_get e
      rw [Nat.sub_zero] at h2
      have hlt : t < args.length := (List.getElem?_eq_some_iff.1 h2).1
      rw [Array.getElem?_append_left (by simpa using hlt)]
      simpa using h2
    have fin : ∀ {σ a w'}, Says σ fn.ntmps a → IO w w' → resVals P σ w'.heap fn.results.toList (fun vs => retT shs K (resOne vs) w'.heap) →
        a.defers = [] ∧ ∃ v, (results fn a.tmps).run P w' = .ok v w' ∧ ∃ u, Ending.returned v = .returned u ∧ IO w w' ∧ ∃ s : St shs, u = mkRes shs s ∧ K s w'.heap := by
      intro σ a w' hs io hr
      obtain ⟨vs, hK, hl, hrun⟩ := resVals_run hs hr
      refine ⟨hs.defers, resOne vs, ?_, resOne vs, rfl, io, retT_out hK⟩
      unfold results
      rw [Array.mapM_eq_mapM_toList]
      simp only [Sem.run_bind, Sem.run_map, Sem.run_pure]
      refine (congrArg (fun r : Result (List Value) => (r.andThen fun a w' => Result.ok a.toArray w').andThen fun a w' => Result.ok (if h : a.size = 1 then a[0] else .tuple a) w') hrun).trans ?_
      clear hrun hK hr
      match vs, hl with
      | [], _ => rfl
      | [v], _ => rfl
      | _ :: _ :: _, _ => rfl
    refine calls_of_wp hf hb (wp_mono (vc_sound hmix c H hs hk) fun e a w' hp => ?_)
    cases e with
    | normal =>
      obtain ⟨σ', hs', _, io, hr⟩ := hp
      exact fin hs' io hr
    | ret =>
      obtain ⟨σ', hs', io, hr⟩ := hp
      exact fin hs' io hr
    | exit id =>
      obtain ⟨σ', k, _, _, _, he, _⟩ := hp
      cases he
    | _ => exact hp.elim
  · exact hk.elim
end Go.Proofs.YtmepenlhjekppaaK
