/- The fifth part of the layer, second half: every order that such a region's edges allow comes to what its formula says. No condition. -/
import Derived.Test.YtlkaipmhjgfkpaaDoorK5
namespace Go.Proofs.YtlkaipmhjgfkpaaDoorK
open Go
variable {ds : List Deferred} {lr : Option Nat} {SS : Option (List Nat)}
set_option linter.unusedSimpArgs false
set_option linter.unusedVariables false

theorem anc_lt {P : Program} {n : Nat} {ops : Array Oper} {A : List Nat} (hG : Graph P n ops A) : ∀ (i : Nat) {j : Nat}, i < ops.size → anc A i j = true → j < i := by
  intro i
  induction i using Nat.strongRecOn with
  | _ i ih =>
    intro j hi h
    have ho : ops[i]? = some ops[i] := Array.getElem?_eq_getElem hi
    obtain ⟨e, he, h⟩ := hG.up i _ j ho h
    have hei := hG.ac i _ ho e he
    rcases h with rfl | h
    · exact hei
    · have := ih e hei (by omega) h; omega
theorem anc_size {P : Program} {n : Nat} {ops : Array Oper} {A : List Nat} (hG : Graph P n ops A) {i j : Nat} (h : anc A i j = true) : i < ops.size := by
  rcases Nat.lt_or_ge i ops.size with hi | hi
  · exact hi
  · exfalso
    unfold anc at h
    rw [List.getD_eq_getElem?_getD, List.getElem?_eq_none (by rw [hG.len]; exact hi)] at h
    simp at h
theorem anc_listed {P : Program} {n : Nat} {ops : Array Oper} {A : List Nat} (hG : Graph P n ops A) {l : Array Bool} (hcl : ∀ j o, Listed l j → ops[j]? = some o → ∀ e ∈ edgesOf o, Listed l e) :
    ∀ (i : Nat) {o : Oper} {j : Nat}, ops[i]? = some o → (∀ e ∈ edgesOf o, Listed l e) → anc A i j = true → Listed l j := by
  intro i
  induction i using Nat.strongRecOn with
  | _ i ih =>
    intro o j ho he h
    obtain ⟨e, hee, h⟩ := hG.up i _ j ho h
    have hei := hG.ac i _ ho e hee
    rcases h with rfl | h
    · exact he _ hee
    · have hoe : ops[e]? = some ops[e]! := by
        have := lt_size ho
        rw [Array.getElem?_eq_getElem (by omega), getElem!_pos ops e (by omega)]
      exact ih e hei hoe (hcl e _ (he e hee) hoe) h

def up (val : Nat → Value) (i : Nat) (u : Value) : Nat → Value := fun j => if j = i then u else val j
theorem up_same (val : Nat → Value) (i : Nat) (u : Value) : up val i u i = u := by simp [up]
theorem up_other {val : Nat → Value} {i j : Nat} {u : Value} (h : j ≠ i) : up val i u j = val j := by simp [up, h]

/-- What has been done, and what the formula has told ahead of it. -/
structure Inv (SS : Option (List Nat)) (P : Program) (ops : Array Oper) (A : List Nat) (h0 : Hp) (a0 : Act) (c : Nat) (l : Array Bool) (val : Nat → Value) (a b : Act) (hs : List (Nat × Hp)) (hc : Hp) : Prop where
  size : l.size = ops.size
  cle : c ≤ ops.size
  closed : ∀ j o, Listed l j → ops[j]? = some o → ∀ e ∈ edgesOf o, Listed l e
  covb : Cov ops val (Listed l) a0 b
  cova : Cov ops val (· < c) a0 a
  late : ∀ j o, j < c → ¬ Listed l j → ops[j]? = some o → ∃ aj, Cov ops val (· < j) a0 aj ∧ RunF SS P ops A h0 hs j o aj (val j)
  early : ∀ j o, c ≤ j → Listed l j → ops[j]? = some o → ∃ (S : Nat → Prop) (bj : Act), Cov ops val S a0 bj ∧ (∀ e, S e → Listed l e) ∧ (∀ e, anc A j e = true → S e) ∧ (∀ e, anc A e j = true → ¬ S e) ∧
    ((Region.wanted o (yielded ops bj.tmps) = true ∧ isReader P o.op = true ∧ ∃ wj : World, (isLoad o.op = true → ExtO SS (hpick A j h0 hs) wj.heap) ∧ (execOp bj.eval o).run P wj = .ok (.value (val j)) wj) ∨
      (Region.wanted o (yielded ops bj.tmps) = false ∧ val j = undef))
  ext : ∀ j o, ops[j]? = some o → isLoad o.op = true → ¬ Listed l j → ExtO SS (hpick A j h0 hs) hc

/-- What was told and what was done are one. -/
theorem told_done {P : Program} {n : Nat} {ops : Array Oper} {A : List Nat} (hG : Graph P n ops A) {h0 : Hp} {a0 : Act} {hs hs' : List (Nat × Hp)} {j : Nat} {o : Oper} (ho : ops[j]? = some o) {val val' : Nat → Value} {S : Nat → Prop} {bj a : Act} {v : Value}
    (hb : Cov ops val S a0 bj) (ha : Cov ops val' (· < j) a0 a) (hS : ∀ e, anc A j e = true → S e) (hN : ∀ e, anc A e j = true → ¬ S e) (hval : ∀ e, S e → val' e = val e) (hp : hpick A j h0 hs' = hpick A j h0 hs)
    (hd : (Region.wanted o (yielded ops bj.tmps) = true ∧ isReader P o.op = true ∧ ∃ wj : World, (isLoad o.op = true → ExtO SS (hpick A j h0 hs) wj.heap) ∧ (execOp bj.eval o).run P wj = .ok (.value v) wj) ∨
      (Region.wanted o (yielded ops bj.tmps) = false ∧ v = undef)) :
    (∀ u, RunF SS P ops A h0 hs' j o a u → u = v) ∧ ¬ (Region.wanted o (yielded ops a.tmps) = true ∧ isReader P o.op = false) := by
  obtain ⟨hev, hw⟩ := cov_eval hG ho hb ha (fun e he => ⟨hS e he, anc_lt hG j (lt_size ho) he, (hval e (hS e he)).symm⟩) fun e he => ⟨hN e he, fun h => by have := anc_lt hG e (anc_size hG he) he; omega⟩
  refine ⟨fun u hr => ?_, fun ⟨h1, h2⟩ => ?_⟩
  · rcases hr with ⟨h1, h2, h3⟩ | ⟨h1, rfl⟩
    · rcases hd with ⟨_, _, wj, h4, h5⟩ | ⟨h4, _⟩
      · have := h3 wj (by rw [hp]; exact h4)
        rw [← execOp_congr_reader h2 hev, h5] at this
        cases this; rfl
      · rw [hw, h1] at h4; cases h4
    · rcases hd with ⟨h4, _⟩ | ⟨_, h4⟩
      · rw [hw, h1] at h4; cases h4
      · exact h4.symm
  · rcases hd with ⟨_, h4, _⟩ | ⟨h4, _⟩
    · rw [h2] at h4; cases h4
    · rw [hw, h1] at h4; cases h4

theorem drop_cons {ops : Array Oper} {c : Nat} {o : Oper} (ho : ops[c]? = some o) : ops.toList.drop c = o :: ops.toList.drop (c + 1) := by
  have hc := lt_size ho
  rw [List.drop_eq_getElem_cons (by simpa using hc)]
  congr 1
  rw [Array.getElem?_eq_getElem hc] at ho
  simpa using ho

theorem covPut_lt {P : Program} {n : Nat} {ops : Array Oper} {A : List Nat} (hG : Graph P n ops A) {val val' : Nat → Value} {a0 a : Act} {c : Nat} {o : Oper} {u : Value} (ho : ops[c]? = some o) (hc : Cov ops val (· < c) a0 a) (hu : val' c = u)
    (hv : ∀ j, j < c → val' j = val j) : Cov ops val' (· < c + 1) a0 (a.put o.dst u) :=
  hc.put hG ho hu (fun j _ hj => hv j hj) fun j => by omega

/-- The formula goes on behind an operation that only reads, done or not yet. -/
theorem Inv.pass {P : Program} {n : Nat} {ops : Array Oper} {A : List Nat} (hG : Graph P n ops A) {h0 : Hp} {a0 : Act} {c : Nat} {l : Array Bool} {val : Nat → Value} {a b : Act} {hs : List (Nat × Hp)} {hc : Hp} (hI : Inv SS P ops A h0 a0 c l val a b hs hc)
    {o : Oper} (ho : ops[c]? = some o) {u : Value} (hr : RunF SS P ops A h0 hs c o a u) : ∃ val', Inv SS P ops A h0 a0 (c + 1) l val' (a.put o.dst u) b hs hc := by
  have hcs := lt_size ho
  by_cases hL : Listed l c
  · obtain ⟨S, bj, h1, h2, h3, h3n, h4⟩ := hI.early c o (Nat.le_refl _) hL ho
    have hu := (told_done hG ho h1 hI.cova h3 h3n (fun e _ => rfl) rfl h4).1 u hr
    refine ⟨val, ⟨hI.size, hcs, hI.closed, hI.covb, covPut_lt hG ho hI.cova hu.symm (fun _ _ => rfl), fun j p hj hn hp => ?_, fun j p hj => hI.early j p (by omega), hI.ext⟩⟩
    have : j ≠ c := fun e => hn (e ▸ hL)
    exact hI.late j p (by omega) hn hp
  · have hne : ∀ e, Listed l e → e ≠ c := fun e he e' => hL (e' ▸ he)
    refine ⟨up val c u, ⟨hI.size, hcs, hI.closed, hI.covb.mono (fun j hj => up_other (hne j hj)) fun _ => Iff.rfl, covPut_lt hG ho hI.cova (up_same _ _ _) (fun j hj => up_other (by omega)), fun j p hj hn hp => ?_, fun j p hj hLj hp => ?_, hI.ext⟩⟩
    · by_cases e : j = c
      · subst e
        rw [ho] at hp; cases hp
        exact ⟨a, hI.cova.mono (fun k hk => up_other (by omega)) fun _ => Iff.rfl, by rw [up_same]; exact hr⟩
      · obtain ⟨aj, h1, h2⟩ := hI.late j p (by omega) hn hp
        exact ⟨aj, h1.mono (fun k hk => up_other (by omega)) fun _ => Iff.rfl, by rw [up_other e]; exact h2⟩
    · obtain ⟨S, bj, h1, h2, h3, h3n, h4⟩ := hI.early j p (by omega) hLj hp
      exact ⟨S, bj, h1.mono (fun k hk => up_other (hne k (h2 k hk))) fun _ => Iff.rfl, h2, h3, h3n, by rw [up_other (hne j hLj)]; exact h4⟩

/-- The formula stands at its end, or before an operation that does more than read. -/
def AtChain (SS : Option (List Nat)) (P : Program) (ops : Array Oper) (A : List Nat) (Q : Act → Hp → Prop) (h0 : Hp) (c : Nat) (a : Act) (hs : List (Nat × Hp)) (hc : Hp) : Prop :=
  (c = ops.size ∧ Q a hc) ∨ ∃ o, ops[c]? = some o ∧ Region.wanted o (yielded ops a.tmps) = true ∧ isReader P o.op = false ∧
    Goes P a o hc fun v h' => (extN ops A c = true → ExtO SS hc h') ∧ TT SS P ops A Q (c + 1) (ops.toList.drop (c + 1)) h0 ((c, h') :: hs) (a.put o.dst v) h'

theorem Inv.norm {P : Program} {n : Nat} {ops : Array Oper} {A : List Nat} (hG : Graph P n ops A) {Q : Act → Hp → Prop} {h0 : Hp} {a0 : Act} {l : Array Bool} {b : Act} {hs : List (Nat × Hp)} {hc : Hp} : ∀ (k c : Nat), c + k = ops.size → ∀ {val : Nat → Value} {a : Act},
    Inv SS P ops A h0 a0 c l val a b hs hc → TT SS P ops A Q c (ops.toList.drop c) h0 hs a hc → ∃ c' val' a', Inv SS P ops A h0 a0 c' l val' a' b hs hc ∧ AtChain SS P ops A Q h0 c' a' hs hc
  | 0, c, hk, val, a, hI, hT => by
    rw [List.drop_eq_nil_of_le (by simp; omega)] at hT
    exact ⟨c, val, a, hI, .inl ⟨by omega, hT⟩⟩
  | k + 1, c, hk, val, a, hI, hT => by
    have ho : ops[c]? = some ops[c]! := by rw [Array.getElem?_eq_getElem (by omega), getElem!_pos ops c (by omega)]
    have hT0 := hT
    rw [drop_cons ho] at hT
    rcases hT with ⟨u, hr, hT⟩ | ⟨h1, h2, h3⟩
    · obtain ⟨val', hI'⟩ := hI.pass hG ho hr
      exact Inv.norm hG k (c + 1) (by omega) hI' hT
    · exact ⟨c, val, a, hI, .inr ⟨_, ho, h1, h2, h3⟩⟩

theorem Goes.some {P : Program} {a : Act} {o : Oper} {h : Hp} {K : Value → Hp → Prop} (hg : Goes P a o h K) : ∃ v h', K v h' := by
  rcases hg { (default : World) with heap := h } rfl with ⟨v, w', _, _, h'⟩ | ⟨f, args, _, hc⟩ | ⟨l, fn, tmps, as, bd, hr, hc⟩
  · exact ⟨v, _, h'⟩
  · obtain ⟨e, w', _, ⟨v, _, _, hK⟩, _⟩ := hc { (default : World) with heap := h } rfl []
    exact ⟨v, _, hK⟩
  · obtain ⟨e, w', ⟨v, _, _, hK⟩, _⟩ := hc.2 default [] (fun d hd => by cases hd)
    exact ⟨v, _, hK⟩

/-- What the formula would say at i, whatever the calls between come to. -/
theorem hyp {P : Program} {n : Nat} {ops : Array Oper} {A : List Nat} (hG : Graph P n ops A) {Q : Act → Hp → Prop} {h0 : Hp} {a0 : Act} {c : Nat} {l : Array Bool} {val : Nat → Value} {a b : Act} {hs : List (Nat × Hp)} {hc : Hp} (hI : Inv SS P ops A h0 a0 c l val a b hs hc)
    {i : Nat} (hi : i < ops.size) (hn : ∀ e, anc A i e = true → Listed l e) : ∀ (k c' : Nat), c' + k = i → c ≤ c' → ∀ (val' : Nat → Value) (a' : Act) (hs' : List (Nat × Hp)) (h' : Hp),
      Cov ops val' (· < c') a0 a' → (∀ e, Listed l e → val' e = val e) → (∀ j, Listed l j ∨ j = i → hpick A j h0 hs' = hpick A j h0 hs) → TT SS P ops A Q c' (ops.toList.drop c') h0 hs' a' h' →
      ∃ val2 a2 hs2 h2, Cov ops val2 (· < i) a0 a2 ∧ (∀ e, Listed l e → val2 e = val e) ∧ hpick A i h0 hs2 = hpick A i h0 hs ∧ TT SS P ops A Q i (ops.toList.drop i) h0 hs2 a2 h2
  | 0, c', hk, _, val', a', hs', h', h1, h2, h3, h4 => by
    obtain rfl : c' = i := by omega
    exact ⟨val', a', hs', h', h1, h2, h3 c' (.inr rfl), h4⟩
  | k + 1, c', hk, hcc, val', a', hs', h', h1, h2, h3, h4 => by
    have ho : ops[c']? = some ops[c']! := by rw [Array.getElem?_eq_getElem (by omega), getElem!_pos ops c' (by omega)]
    generalize ops[c']! = o at ho
    rw [drop_cons ho] at h4
    by_cases hL : Listed l c'
    · obtain ⟨S, bj, e1, e2, e3, e3n, e4⟩ := hI.early c' o hcc hL ho
      obtain ⟨td, tn⟩ := told_done hG ho e1 h1 e3 e3n (fun e he => h2 e (e2 e he)) (h3 c' (.inl hL)) e4
      rcases h4 with ⟨u, hr, h4⟩ | ⟨hw, hrd, _⟩
      · have hu := td u hr
        exact hyp hG hI hi hn k (c' + 1) (by omega) (by omega) val' _ hs' h' (covPut_lt hG ho h1 (by rw [h2 c' hL, hu]) fun _ _ => rfl) h2 h3 h4
      · exact (tn ⟨hw, hrd⟩).elim
    · have hne : ∀ e, Listed l e → e ≠ c' := fun e he e' => hL (e' ▸ he)
      rcases h4 with ⟨u, hr, h4⟩ | ⟨hw, hrd, hg⟩
      · exact hyp hG hI hi hn k (c' + 1) (by omega) (by omega) (up val' c' u) _ hs' h' (covPut_lt hG ho h1 (up_same _ _ _) fun j hj => up_other (by omega)) (fun e he => by rw [up_other (hne e he)]; exact h2 e he) h3 h4
      · obtain ⟨v, h'', _, h4⟩ := hg.some
        refine hyp hG hI hi hn k (c' + 1) (by omega) (by omega) (up val' c' v) _ _ h'' (covPut_lt hG ho h1 (up_same _ _ _) fun j hj => up_other (by omega)) (fun e he => by rw [up_other (hne e he)]; exact h2 e he) (fun j hj => ?_) h4
        have : anc A j c' = false := by
          cases hh : anc A j c' with
          | false => rfl
          | true =>
            exfalso
            rcases hj with hj | rfl
            · have hjs : j < ops.size := by
                rcases Nat.lt_or_ge j ops.size with h | h
                · exact h
                · unfold Listed at hj; rw [Array.getElem?_eq_none (by rw [hI.size]; exact h)] at hj; cases hj
              have hoj : ops[j]? = some ops[j] := Array.getElem?_eq_getElem hjs
              exact hL (anc_listed hG hI.closed j hoj (hI.closed j _ hj hoj) hh)
            · exact hL (hn c' hh)
        simp only [hpick, this]
        exact h3 j hj

theorem count_set : ∀ {L : List Bool} {i : Nat}, L[i]? = some false → ((L.set i true).filter id).length = (L.filter id).length + 1
  | [], i, h => by cases h
  | x :: L, 0, h => by simp at h; subst h; simp
  | x :: L, i + 1, h => by
    have := count_set (L := L) (i := i) (by simpa using h)
    cases x <;> simp [this]

def isSelect : Op → Bool
  | .select .. => true
  | _ => false
theorem execOp_congr_all {ρ ρ' : Operand → Value} {o : Oper} (hp : isSelect o.op = false) (h : ∀ x ∈ o.op.operands.toList, ρ x = ρ' x) : execOp ρ o = execOp ρ' o := by
  have hres : ∀ c : Call, (∀ x ∈ c.operands.toList, ρ x = ρ' x) → ∀ t, resolve ρ c t = resolve ρ' c t := by
    intro c hc t
    exact resolve_congr c t fun x hx => hc x (by simpa using hx)
  by_cases hpl : plainOp o.op = true
  · exact execOp_congr hpl h
  · obtain ⟨dst, op, type, pos, after, guard⟩ := o
    cases op with
    | load t x => have e0 : ρ x = ρ' x := h x (by simp [Op.operands]); simp only [execOp, e0]
    | nilCheck x => have e0 : ρ x = ρ' x := h x (by simp [Op.operands]); simp only [execOp, e0]
    | pick c x y => have e0 : ρ c = ρ' c := h c (by simp [Op.operands]); have e1 : ρ x = ρ' x := h x (by simp [Op.operands]); have e2 : ρ y = ρ' y := h y (by simp [Op.operands]); simp only [execOp, e0, e1, e2]
    | call c => have := hres c (fun x hx => h x (by simpa [Op.operands] using hx)) type; simp only [execOp, this]
    | go c => have := hres c (fun x hx => h x (by simpa [Op.operands] using hx)) type; simp only [execOp, this]
    | defer c => have := hres c (fun x hx => h x (by simpa [Op.operands] using hx)) type; simp only [execOp, this]
    | insert t m k x => have e0 : ρ m = ρ' m := h m (by simp [Op.operands]); have e1 : ρ k = ρ' k := h k (by simp [Op.operands]); have e2 : ρ x = ρ' x := h x (by simp [Op.operands]); simp only [execOp, e0, e1, e2]
    | mapUpdate t m k x => have e0 : ρ m = ρ' m := h m (by simp [Op.operands]); have e1 : ρ k = ρ' k := h k (by simp [Op.operands]); have e2 : ρ x = ρ' x := h x (by simp [Op.operands]); simp only [execOp, e0, e1, e2]
    | entryStore t m k x => have e0 : ρ m = ρ' m := h m (by simp [Op.operands]); have e1 : ρ k = ρ' k := h k (by simp [Op.operands]); have e2 : ρ x = ρ' x := h x (by simp [Op.operands]); simp only [execOp, e0, e1, e2]
    | mapEntry t m k => have e0 : ρ m = ρ' m := h m (by simp [Op.operands]); have e1 : ρ k = ρ' k := h k (by simp [Op.operands]); simp only [execOp, e0, e1]
    | ready g => rfl
    | waits g => rfl
    | sliceToArrayPointer t x => have e0 : ρ x = ρ' x := h x (by simp [Op.operands]); simp only [execOp, e0]
    | makeMap t r => have e0 : r.map ρ = r.map ρ' := opt_congr fun y hy => h y (by simpa [Op.operands] using hy); simp only [execOp, e0]
    | makeChan t x => have e0 : ρ x = ρ' x := h x (by simp [Op.operands]); simp only [execOp, e0]
    | lookup t x i ok => have e0 : ρ x = ρ' x := h x (by simp [Op.operands]); have e1 : ρ i = ρ' i := h i (by simp [Op.operands]); simp only [execOp, e0, e1]
    | range t x => have e0 : ρ x = ρ' x := h x (by simp [Op.operands]); simp only [execOp, e0]
    | next x s => have e0 : ρ x = ρ' x := h x (by simp [Op.operands]); simp only [execOp, e0]
    | entry x => have e0 : ρ x = ρ' x := h x (by simp [Op.operands]); simp only [execOp, e0]
    | panic x => have e0 : ρ x = ρ' x := h x (by simp [Op.operands]); simp only [execOp, e0]
    | send x y => have e0 : ρ x = ρ' x := h x (by simp [Op.operands]); have e1 : ρ y = ρ' y := h y (by simp [Op.operands]); simp only [execOp, e0, e1]
    | recv t x ok => have e0 : ρ x = ρ' x := h x (by simp [Op.operands]); simp only [execOp, e0]
    | select _ _ => simp [isSelect] at hp
    | _ => exact (hpl rfl).elim

def noSelect (ops : Array Oper) : Bool := ops.toList.all fun o => !isSelect o.op

theorem draw_any {P : Program} {n : Nat} {ops : Array Oper} {A : List Nat} (hG : Graph P n ops A) (hsel : noSelect ops = true) {Q : Exit → Act → World → Prop} {QQ : Act → Hp → Prop} {w0 : World} {h0 : Hp} {a0 : Act}
    (hQ : ∀ a w, IO w0 w → QQ a w.heap → Q .normal a w) :
    ∀ (k : Nat) (c : Nat) (l : Array Bool) (val : Nat → Value) (a b : Act) (hs : List (Nat × Hp)) (w : World), IO w0 w → Inv SS P ops A h0 a0 c l val a b hs w.heap → AtChain SS P ops A QQ h0 c a hs w.heap →
      k + (l.toList.filter id).length = ops.size → wpAnyIn (FF lr) 0 P .any ops Q k l b w := by
  have hns : ∀ {i : Nat} {o : Oper}, ops[i]? = some o → isSelect o.op = false := by
    intro i o ho
    have := List.all_eq_true.1 hsel o (Array.mem_toList_iff.2 (Array.mem_of_getElem? ho))
    simpa using this
  intro k
  induction k with
  | zero =>
    intro c l val a b hs w io hI hA hcnt
    have hall : ∀ i, i < ops.size → Listed l i := by
      intro i hi
      have h1 : (l.toList.filter id).length = l.toList.length := by simp only [Array.length_toList, hI.size]; omega
      have h2 : ∀ x ∈ l.toList, id x = true := List.length_filter_eq_length_iff.1 h1
      unfold Listed
      have hil : i < l.size := by rw [hI.size]; exact hi
      rw [Array.getElem?_eq_getElem hil]
      have := h2 l[i] (by simp)
      simpa using this
    have hr : Region.ready .any ops l = [] := by
      cases hr : Region.ready .any ops l with
      | nil => rfl
      | cons i r =>
        have hmem : i ∈ Region.ready .any ops l := by rw [hr]; simp
        obtain ⟨hi, hn, _⟩ := mem_ready hI.size hmem
        exact (hn (hall i hi)).elim
    refine ⟨hr, ?_⟩
    rcases hA with ⟨hc, hq⟩ | ⟨o, ho, hw, hrd, _⟩
    · have : b = a := cov_all hI.covb hI.cova fun j hj => ⟨hall j hj, by omega, rfl⟩
      subst this
      exact hQ _ _ io hq
    · obtain ⟨S, bj, e1, e2, e3, e3n, e4⟩ := hI.early c o (Nat.le_refl _) (hall c (lt_size ho)) ho
      exact ((told_done hG ho e1 hI.cova e3 e3n (fun _ _ => rfl) rfl e4).2 ⟨hw, hrd⟩).elim
  | succ k ih =>
    intro c l val a b hs w io hI hA hcnt
    have hl := hI.size
    have hsome : ∃ i, i < ops.size ∧ ¬ Listed l i := by
      by_cases h : ∃ i, i < ops.size ∧ ¬ Listed l i
      · exact h
      · exfalso
        have hall : ∀ i, i < ops.size → Listed l i := fun i hi => Classical.byContradiction fun hn => h ⟨i, hi, hn⟩
        have h2 : ∀ x ∈ l.toList, id x = true := by
          intro x hx
          obtain ⟨i, hi, rfl⟩ := List.getElem_of_mem hx
          have := hall i (by simpa [hl] using hi)
          unfold Listed at this
          simp at hi
          rw [Array.getElem?_eq_getElem hi] at this
          simpa using this
        have h1 := List.length_filter_eq_length_iff.2 h2
        simp only [Array.length_toList] at h1
        omega
    obtain ⟨i0, hi0, hn0⟩ := hsome
    refine ⟨fun hr => (ready_ne hl hG.ac i0 hi0 hn0 hr).elim, fun i hmem => ?_⟩
    obtain ⟨hi, hn, o, ho, he⟩ := mem_ready hl hmem
    have hli : i < l.size := by omega
    have hanc : ∀ e, anc A i e = true → Listed l e := fun e h => anc_listed hG hI.closed i ho he h
    have hancn : ∀ e, anc A e i = true → ¬ Listed l e := by
      intro e h hL
      have hes := anc_size hG h
      have hoe : ops[e]? = some ops[e] := Array.getElem?_eq_getElem hes
      exact hn (anc_listed hG hI.closed e hoe (hI.closed e _ hL hoe) h)
    have hltn : ∀ e, anc A e i = true → ¬ e < i := fun e h => by have := anc_lt hG e (anc_size hG h) h; omega
    have hcnt' : k + ((l.setIfInBounds i true).toList.filter id).length = ops.size := by
      have : ((l.setIfInBounds i true).toList.filter id).length = (l.toList.filter id).length + 1 := by
        rw [Array.toList_setIfInBounds]
        have hv : l.toList[i]? = some false := by
          have : l[i]? ≠ some true := hn
          rw [Array.getElem?_eq_getElem hli] at this
          rw [Array.getElem?_toList, Array.getElem?_eq_getElem hli]
          cases hh : l[i] <;> simp_all
        exact count_set hv
      omega
    have hclosed' : ∀ j p, Listed (l.setIfInBounds i true) j → ops[j]? = some p → ∀ e ∈ edgesOf p, Listed (l.setIfInBounds i true) e := by
      intro j p hj hp e hee
      refine (listed_set hli).2 (.inr ?_)
      rcases (listed_set hli).1 hj with rfl | hj
      · rw [ho] at hp; cases hp; exact he e hee
      · exact hI.closed j p hj hp e hee
    -- one operation that reads, and its value
    have goOn : ∀ (c' : Nat) (val' : Nat → Value) (a' : Act) (u : Value), Inv SS P ops A h0 a0 c' (l.setIfInBounds i true) val' a' (b.put o.dst u) hs w.heap → AtChain SS P ops A QQ h0 c' a' hs w.heap →
        ((Region.wanted o (yielded ops b.tmps) = true ∧ (execOp b.eval o).run P w = .ok (.value u) w) ∨ (Region.wanted o (yielded ops b.tmps) = false ∧ u = undef)) →
        wpOpIn (FF lr) 0 P ops Q i (wpAnyIn (FF lr) 0 P .any ops Q k (l.setIfInBounds i true)) b w := by
      intro c' val' a' u hI' hA' hrun
      have hnext := ih c' _ val' a' _ hs w io hI' hA' hcnt'
      unfold wpOpIn
      rw [ho]
      simp only
      rcases hrun with ⟨h1, h2⟩ | ⟨h1, rfl⟩
      · rw [if_pos h1]
        exact wpIn_of_value h2 hnext
      · rw [if_neg (by simp [h1])]; exact ⟨fun _ _ => trivial, hnext⟩
    rcases Nat.lt_trichotomy i c with hic | hic | hic
    · -- late
      obtain ⟨aj, h1, h2⟩ := hI.late i o hic hn ho
      obtain ⟨hev, hwt⟩ := cov_eval hG ho hI.covb h1 (fun e he => ⟨hanc e he, anc_lt hG i hi he, rfl⟩) fun e he => ⟨hancn e he, hltn e he⟩
      refine goOn c val a (val i) ⟨by simp [hl], hI.cle, hclosed', hI.covb.put hG ho rfl (fun _ _ _ => rfl) (fun j => by rw [listed_set hli]; exact ⟨fun h => h.imp Eq.symm id, fun h => h.imp Eq.symm id⟩), hI.cova,
        fun j p hj hnj hp => hI.late j p hj (fun h => hnj ((listed_set hli).2 (.inr h))) hp, fun j p hj hLj hp => ?_, fun j p hp hld hnj => hI.ext j p hp hld fun h => hnj ((listed_set hli).2 (.inr h))⟩ hA ?_
      · rcases (listed_set hli).1 hLj with rfl | hLj
        · omega
        · obtain ⟨S, bj, e1, e2, e3, e3n, e4⟩ := hI.early j p hj hLj hp
          exact ⟨S, bj, e1, fun e h => (listed_set hli).2 (.inr (e2 e h)), e3, e3n, e4⟩
      · rcases h2 with ⟨h3, h4, h5⟩ | ⟨h3, h4⟩
        · refine .inl ⟨by rw [hwt]; exact h3, ?_⟩
          rw [execOp_congr_reader h4 hev]
          exact h5 w fun hld => hI.ext i o ho hld hn
        · exact .inr ⟨by rw [hwt]; exact h3, h4⟩
    · -- the operation that does more than read
      subst hic
      rcases hA with ⟨hc, _⟩ | ⟨o', ho', hw, hrd, hg⟩
      · omega
      · rw [ho] at ho'; cases ho'
        obtain ⟨hev, hwt⟩ := cov_eval hG ho hI.covb hI.cova (fun e he => ⟨hanc e he, anc_lt hG i hi he, rfl⟩) fun e he => ⟨hancn e he, hltn e he⟩
        unfold wpOpIn
        rw [ho]
        simp only
        rw [if_pos (by rw [hwt]; exact hw)]
        have hg' : Goes P b o w.heap (fun v h' => (extN ops A i = true → ExtO SS w.heap h') ∧ TT SS P ops A QQ (i + 1) (ops.toList.drop (i + 1)) h0 ((i, h') :: hs) (a.put o.dst v) h') := by
          unfold Goes
          rw [execOp_congr_all (hns ho) hev]
          exact hg
        refine wp_of_goes hg' fun v w' io' ⟨hext, hT⟩ => ?_
        have hself : ∀ j, anc A j i = false → hpick A j h0 ((i, w'.heap) :: hs) = hpick A j h0 hs := fun j hj => by simp only [hpick, hj]
        have hle : ∀ j, j ≤ i → j < ops.size → anc A j i = false := by
          intro j hj hjs
          cases hh : anc A j i with
          | false => rfl
          | true => have := anc_lt hG j hjs hh; omega
        have hne : ∀ e, Listed l e → e ≠ i := fun e he e' => hn (e' ▸ he)
        have hI1 : Inv SS P ops A h0 a0 (i + 1) (l.setIfInBounds i true) (up val i v) (a.put o.dst v) (b.put o.dst v) ((i, w'.heap) :: hs) w'.heap := by
          refine ⟨by simp [hl], by omega, hclosed', hI.covb.put hG ho (up_same _ _ _) (fun j hj _ => up_other hj) (fun j => by rw [listed_set hli]; exact ⟨fun h => h.imp Eq.symm id, fun h => h.imp Eq.symm id⟩),
            covPut_lt hG ho hI.cova (up_same _ _ _) (fun j hj => up_other (by omega)), fun j p hj hnj hp => ?_, fun j p hj hLj hp => ?_, fun j p hp hld hnj => ?_⟩
          · have hji : j ≠ i := fun e => hnj ((listed_set hli).2 (.inl e.symm))
            obtain ⟨aj, h1, h2⟩ := hI.late j p (by omega) (fun h => hnj ((listed_set hli).2 (.inr h))) hp
            refine ⟨aj, h1.mono (fun k hk => up_other (by omega)) fun _ => Iff.rfl, ?_⟩
            rw [up_other hji]
            unfold RunF at h2 ⊢
            rw [hself j (hle j (by omega) (lt_size hp))]
            exact h2
          · rcases (listed_set hli).1 hLj with rfl | hLj
            · omega
            · obtain ⟨S, bj, e1, e2, e3, e3n, e4⟩ := hI.early j p (by omega) hLj hp
              refine ⟨S, bj, e1.mono (fun k hk => up_other (hne k (e2 k hk))) fun _ => Iff.rfl, fun e h => (listed_set hli).2 (.inr (e2 e h)), e3, e3n, ?_⟩
              rw [up_other (hne j hLj), hself j (by
                cases hh : anc A j i with
                | false => rfl
                | true => exact (hn (e2 i (e3 i hh))).elim)]
              exact e4
          · have hnj' : ¬ Listed l j := fun h => hnj ((listed_set hli).2 (.inr h))
            by_cases hji : anc A j i = true
            · simp only [hpick, hji]; exact ExtO.refl _ _
            · rw [hself j (by simpa using hji)]
              refine (hI.ext j p hp hld hnj').trans (hext ?_)
              unfold extN
              rw [Bool.not_eq_true']
              cases hab : allBelow (fun i_1 => !(opAt ops i_1 fun o => isLoad o.op) || anc A i_1 i || anc A i i_1) ops.size with
              | false => rfl
              | true =>
                exfalso
                have := allBelow_out hab j (lt_size hp)
                have hl1 : (opAt ops j fun o => isLoad o.op) = true := by unfold opAt; rw [hp]; exact hld
                rw [hl1] at this
                simp only [Bool.not_true, Bool.false_or, Bool.or_eq_true] at this
                rcases this with h | h
                · exact hji h
                · exact hnj' (hanc j h)
        obtain ⟨c2, val2, a2, hI2, hA2⟩ := hI1.norm hG (ops.size - (i + 1)) (i + 1) (by omega) hT
        exact ih c2 _ val2 a2 _ _ w' (io.trans io') hI2 hA2 hcnt'
    · -- early
      rcases hA with ⟨hc, _⟩ | ⟨oc, hoc, hwc, hrdc, hg⟩
      · omega
      · have hT : TT SS P ops A QQ c (ops.toList.drop c) h0 hs a w.heap := by
          rw [drop_cons hoc]
          exact .inr ⟨hwc, hrdc, hg⟩
        have hcn : ¬ Listed l c := by
          intro hL
          obtain ⟨S, bj, e1, e2, e3, e3n, e4⟩ := hI.early c oc (Nat.le_refl _) hL hoc
          exact (told_done hG hoc e1 hI.cova e3 e3n (fun _ _ => rfl) rfl e4).2 ⟨hwc, hrdc⟩
        obtain ⟨val2, a2, hs2, h2, k1, k2, k3, k4⟩ := hyp hG hI hi hanc (i - c) c (by omega) (Nat.le_refl _) val a hs w.heap hI.cova (fun _ _ => rfl) (fun _ _ => rfl) hT
        rw [drop_cons ho] at k4
        obtain ⟨hev, hwt⟩ := cov_eval hG ho hI.covb k1 (fun e he => ⟨hanc e he, anc_lt hG i hi he, (k2 e (hanc e he)).symm⟩) fun e he => ⟨hancn e he, hltn e he⟩
        rcases k4 with ⟨u, hr, _⟩ | ⟨hw2, hrd2, _⟩
        · have hne : ∀ e, Listed l e → e ≠ i := fun e he e' => hn (e' ▸ he)
          have hrun : (Region.wanted o (yielded ops b.tmps) = true ∧ isReader P o.op = true ∧ (execOp b.eval o).run P w = .ok (.value u) w) ∨ (Region.wanted o (yielded ops b.tmps) = false ∧ u = undef) := by
            rcases hr with ⟨r1, r2, r3⟩ | ⟨r1, r2⟩
            · refine .inl ⟨by rw [hwt]; exact r1, r2, ?_⟩
              rw [execOp_congr_reader r2 hev]
              exact r3 w fun hld => by rw [k3]; exact hI.ext i o ho hld hn
            · exact .inr ⟨by rw [hwt]; exact r1, r2⟩
          refine goOn c (up val i u) a u ⟨by simp [hl], hI.cle, hclosed', hI.covb.put hG ho (up_same _ _ _) (fun j hj _ => up_other hj) (fun j => by rw [listed_set hli]; exact ⟨fun h => h.imp Eq.symm id, fun h => h.imp Eq.symm id⟩),
            hI.cova.mono (fun j hj => up_other (by omega)) (fun _ => Iff.rfl), fun j p hj hnj hp => ?_, fun j p hj hLj hp => ?_, fun j p hp hld hnj => hI.ext j p hp hld fun h => hnj ((listed_set hli).2 (.inr h))⟩ (.inr ⟨oc, hoc, hwc, hrdc, hg⟩) (hrun.imp (fun h => ⟨h.1, h.2.2⟩) id)
          · obtain ⟨aj, h1, h2⟩ := hI.late j p hj (fun h => hnj ((listed_set hli).2 (.inr h))) hp
            exact ⟨aj, h1.mono (fun k hk => up_other (by omega)) fun _ => Iff.rfl, by rw [up_other (by omega)]; exact h2⟩
          · rcases (listed_set hli).1 hLj with rfl | hLj
            · rw [ho] at hp; cases hp
              refine ⟨Listed l, b, hI.covb.mono (fun j hj => up_other (hne j hj)) fun _ => Iff.rfl, fun e h => (listed_set hli).2 (.inr h), hanc, hancn, ?_⟩
              rw [up_same]
              rcases hrun with ⟨r1, r2, r3⟩ | ⟨r1, r2⟩
              · exact .inl ⟨r1, r2, w, fun hld => hI.ext i o ho hld hn, r3⟩
              · exact .inr ⟨r1, r2⟩
            · obtain ⟨S, bj, e1, e2, e3, e3n, e4⟩ := hI.early j p hj hLj hp
              refine ⟨S, bj, e1.mono (fun k hk => up_other (hne k (e2 k hk))) fun _ => Iff.rfl, fun e h => (listed_set hli).2 (.inr (e2 e h)), e3, e3n, ?_⟩
              rw [up_other (hne j hLj)]; exact e4
        · exact (hcn (hanc c (hG.chain i o c oc ho hrd2 hoc hrdc hic))).elim

theorem vcDr_wp {P : Program} (hmix : P.follows .mixedOrders = true) {n : Nat} {ops : Array Oper} (hok : drawOk P n ops (ancL ops.toList []) = true) (hsel : noSelect ops = true) {Q : Exit → Act → World → Prop} {K : AFr → Hp → Prop} {σ : AFr} {a : Act} {w : World} (hs : Says ds σ n a)
    (hk : vcDr SS P n ops (ancL ops.toList []) 0 ops.toList σ w.heap [] w.heap K) (hQ : ∀ σ' a' w', Says ds σ' n a' → SameO ops σ σ' → IO w w' → K σ' w'.heap → Q .normal a' w') {id : Nat} : (Code.region id ops true).wpIn (FF lr) 0 P Q a w := by
  have hG := drawOk_out hok
  refine wpIn_region_any hmix ?_
  let w1 : World := { w with drawn := w.drawn + 1 }
  have hT := vcDr_TT (σ0 := σ) ops.toList 0 (fun _ h => h) hs (SameO.refl ops σ) hk
  have hno : ∀ j, ¬ Listed (Array.replicate ops.size false) j := by
    intro j hL
    unfold Listed at hL
    rw [Array.getElem?_replicate] at hL
    split at hL <;> simp at hL
  have hI : Inv SS P ops (ancL ops.toList []) w.heap a 0 (Array.replicate ops.size false) (fun _ => undef) a a [] w1.heap :=
    ⟨by simp, Nat.zero_le _, fun j o hL => (hno j hL).elim, ⟨rfl, rfl, fun t j _ hj => (hno j hj).elim, fun _ _ => rfl⟩, ⟨rfl, rfl, fun t j _ hj => (by simp at hj), fun _ _ => rfl⟩,
      fun j o hj => (by simp at hj), fun j o _ hL => (hno j hL).elim, fun j o _ _ _ => ExtO.refl _ _⟩
  obtain ⟨c, val, a', hI', hA⟩ := hI.norm hG ops.size 0 (by omega) hT
  refine draw_any hG hsel (w0 := w) (fun a w' io hq => ?_) ops.size c _ val a' a [] w1 (IO.drew w) hI' hA (by simp)
  obtain ⟨σ', hs', hm, hK⟩ := hq
  exact hQ σ' a w' hs' hm io hK
end Go.Proofs.YtlkaipmhjgfkpaaDoorK
