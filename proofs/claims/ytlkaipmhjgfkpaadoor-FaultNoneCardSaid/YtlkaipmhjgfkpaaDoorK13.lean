/- The thirteenth part of the layer: rows of structs; make; writes into rows. No condition. -/
import Derived.Test.YtlkaipmhjgfkpaaDoorK12
namespace Go.Proofs.YtlkaipmhjgfkpaaDoorK
open Go Go.RowKit
set_option linter.unusedSimpArgs false
set_option linter.unusedVariables false

/-! Cells by their kinds. -/
def Fits : List At → List Value → Prop
  | [], [] => True
  | a :: as, v :: vs => (∃ x, v = a.v x) ∧ Fits as vs
  | _, _ => False
theorem Fits.ty : ∀ {l : List At} {vs : List Value}, Fits l vs → ∃ x : StA l, vs = vsA l x
  | [], [], _ => ⟨(), rfl⟩
  | a :: as, v :: vs, h => by
    obtain ⟨⟨x, rfl⟩, h⟩ := h
    obtain ⟨y, rfl⟩ := Fits.ty h
    exact ⟨(x, y), rfl⟩
  | [], _ :: _, h => h.elim
  | _ :: _, [], h => h.elim
theorem Fits.append : ∀ {l l' : List At} {vs vs' : List Value}, Fits l vs → Fits l' vs' → Fits (l ++ l') (vs ++ vs')
  | [], _, [], _, _, h => h
  | a :: as, _, v :: vs, _, h, h' => ⟨h.1, Fits.append h.2 h'⟩
  | [], _, _ :: _, _, h, _ => h.elim
  | _ :: _, _, [], _, h, _ => h.elim
theorem fits_vsA : ∀ (l : List At) (x : StA l), Fits l (vsA l x)
  | [], _ => trivial
  | a :: as, x => ⟨⟨x.1, rfl⟩, fits_vsA as x.2⟩
theorem vsA_len : ∀ (l : List At) (x : StA l), (vsA l x).length = l.length
  | [], _ => rfl
  | a :: as, x => by simp [vsA, vsA_len as x.2]
def noRaw (l : List At) : Bool := l.all fun
  | .raw => false
  | _ => true
theorem vsA_one : ∀ (l : List At) (x : StA l), noRaw l = true → ∀ v ∈ vsA l x, oneCell v = true
  | [], _, _, v, hv => by cases hv
  | a :: as, x, h, v, hv => by
    simp only [noRaw, List.all_cons, Bool.and_eq_true] at h
    simp only [vsA, List.mem_cons] at hv
    rcases hv with rfl | hv
    · cases a <;> first | rfl | (simp at h; done)
    · exact vsA_one as x.2 h.2 v hv
theorem encA {l : List At} (h : noRaw l = true) : Enc (vsA l) l.length := ⟨vsA_len l, fun x v hv => vsA_one l x h v hv⟩

/-- The kinds of a type's cells, as a reading tells them: numbers, truths, texts, slices, and structs of them, laid one behind another. -/
def kindsF (P : Program) (rec_ : TypeId → Option (List At)) : List Field → Nat → Option (List At)
  | [], _ => some []
  | f :: fs, o => match Nat.beq f.offset o, rec_ f.type with
    | true, some l => match Nat.beq l.length (P.cellsOf f.type), kindsF P rec_ fs (o + l.length) with
      | true, some r => some (l ++ r)
      | _, _ => none
    | _, _ => none
def kinds (P : Program) : Nat → TypeId → Option (List At)
  | 0, _ => none
  | d + 1, t => match P.underlying t with
    | some .bool => some [.bool]
    | some (.int k) => some [.int k]
    | some .string => some [.str]
    | some (.slice _) => some [.sl]
    | some (.struct fs) => kindsF P (kinds P d) fs.toList 0
    | _ => none
theorem kindsF_out {P : Program} {rec_ : TypeId → Option (List At)} : ∀ {fs : List Field} {o : Nat} {l : List At} {cs : List Value}, kindsF P rec_ fs o = some l →
    (∀ (i : Nat) f, fs[i]? = some f → ∀ l', rec_ f.type = some l' → Fits l' ((cs.drop f.offset).take (P.cellsOf f.type))) → Fits l ((cs.drop o).take l.length)
  | [], o, l, cs, h, _ => by cases h; simp [Fits]
  | f :: fs, o, l, cs, h, hf => by
    simp only [kindsF] at h
    split at h
    · rename_i l1 ho hl1
      split at h
      · rename_i r hlen hr
        cases h
        have ho := Nat.eq_of_beq_eq_true ho
        have hlen := Nat.eq_of_beq_eq_true hlen
        have h1 := hf 0 f rfl l1 hl1
        rw [ho, ← hlen] at h1
        have h2 := kindsF_out (cs := cs) hr fun i g hg => hf (i + 1) g (by simpa using hg)
        have : (cs.drop o).take (l1 ++ r).length = (cs.drop o).take l1.length ++ (cs.drop (o + l1.length)).take r.length := by
          rw [List.length_append, List.take_add, List.drop_drop]
        rw [this]
        exact h1.append h2
      · cases h
    · cases h
theorem rd_kinds {P : Program} {h : Hp} : ∀ (d n : Nat) {t : TypeId} {cs : List Value} {m : Nat} {l : List At}, kinds P d t = some l → P.cellsOf t = l.length → Rd P h n t cs m → cs.length = l.length → Fits l cs
  | 0, _, _, _, _, _, hk, _, _, _ => by cases hk
  | d + 1, 0, _, _, _, _, _, _, r, _ => r.elim
  | d + 1, n + 1, t, cs, m, l, hk, hc, r, hcl => by
    unfold Rd at r
    obtain ⟨_, r⟩ := r
    simp only [kinds] at hk
    split at hk
    · rename_i ht; cases hk
      rw [ht] at r; obtain ⟨b, rfl⟩ := r; exact ⟨⟨b, rfl⟩, trivial⟩
    · rename_i k ht; cases hk
      rw [ht] at r; obtain ⟨x, rfl, _⟩ := r; exact ⟨⟨x, rfl⟩, trivial⟩
    · rename_i ht; cases hk
      rw [ht] at r; obtain ⟨x, rfl, _⟩ := r; exact ⟨⟨x, rfl⟩, trivial⟩
    · rename_i e ht; cases hk
      rw [ht] at r
      rcases r with rfl | ⟨a, len, cap, rfl, _⟩
      · exact ⟨⟨⟨none, 0, 0⟩, rfl⟩, trivial⟩
      · exact ⟨⟨⟨some a, len, cap⟩, rfl⟩, trivial⟩
    · rename_i fs ht
      rw [ht] at r
      obtain ⟨hl, ms, hms, _, hf⟩ := r
      have := kindsF_out (cs := cs) hk fun i f hi l' hl' => by
        obtain ⟨mi, _, hr⟩ := hf i f (by rw [← Array.getElem?_toList]; exact hi)
        have hlen : P.cellsOf f.type = l'.length ∧ ((cs.drop f.offset).take (P.cellsOf f.type)).length = l'.length := by
          -- from the sum of the kinds
          have key : ∀ (fs : List Field) (o : Nat) (l : List At), kindsF P (kinds P d) fs o = some l → ∀ (i : Nat) f, fs[i]? = some f → ∃ l', kinds P d f.type = some l' ∧ P.cellsOf f.type = l'.length ∧ o ≤ f.offset ∧ f.offset + l'.length ≤ o + l.length := by
            intro fs
            induction fs with
            | nil => intro o l _ i f hi; cases hi
            | cons g fs ih =>
              intro o l h i f hi
              simp only [kindsF] at h
              split at h
              · rename_i l1 ho hl1
                split at h
                · rename_i r hlen hr
                  cases h
                  have ho := Nat.eq_of_beq_eq_true ho
                  have hlen := Nat.eq_of_beq_eq_true hlen
                  cases i with
                  | zero => cases hi; exact ⟨l1, hl1, hlen.symm, by omega, by simp; omega⟩
                  | succ i =>
                    obtain ⟨l', h1, h2, h3, h4⟩ := ih _ _ hr i f (by simpa using hi)
                    exact ⟨l', h1, h2, by omega, by simp; omega⟩
                · cases h
              · cases h
          obtain ⟨l'', h1, h2, h3, h4⟩ := key fs.toList 0 l hk i f hi
          rw [hl'] at h1; cases h1
          refine ⟨h2, ?_⟩
          rw [List.length_take, List.length_drop, hcl, h2]; omega
        exact rd_kinds d n hl' hlen.1 hr hlen.2
      rw [List.drop_zero, ← hcl, List.take_length] at this
      exact this
    · cases hk
/-- A slice argument of structs. -/
theorem arg_rows {P : Program} {h : Hp} {t e : TypeId} {m : Nat} {a : Option Addr} {len cap : Nat} {l : List At} (ht : P.underlying t = some (.slice e)) (hC : P.cellsOf e = l.length) (hk : kinds P 16 e = some l)
    (g : Arg P h t (.slice a len cap) m) : ∃ (xs : List (StA l)) (ms : Nat → Nat), IsRow (vsA l) l.length h ⟨a, len, cap⟩ xs ∧ cap * P.bytesOf e ≤ reachBytes ∧ sumTo xs.length ms + 1 ≤ m ∧ ∀ i x, xs[i]? = some x → ∃ n, Rd P h n e (vsA l x) (ms i) := by
  refine arg_row (Good := fun x m => ∃ n, Rd P h n e (vsA l x) m) ht hC (fun n cs m r hl => ?_) g
  obtain ⟨x, rfl⟩ := (rd_kinds 16 n hk hC r hl).ty
  exact ⟨x, rfl, n, r⟩
theorem rd_one {P : Program} {h : Hp} {n : Nat} {t : TypeId} {cs : List Value} {m : Nat} (r : Rd P h n t cs m) : 1 ≤ m := by
  cases n with
  | zero => exact r.elim
  | succ n => exact r.1
/-- A struct argument, part by part. -/
theorem arg_struct {P : Program} {h : Hp} {t : TypeId} {m : Nat} {cs : Array Value} {fs : Array Field} (ht : P.underlying t = some (.struct fs)) (g : Arg P h t (.agg cs) m) :
    cs.toList.length = P.cellsOf t ∧ ∃ ms : List Nat, ms.length = fs.size ∧ ms.sum + 1 ≤ m ∧ ∀ (i : Nat) f, fs[i]? = some f → ∃ mi, ms[i]? = some mi ∧ ∃ n, Rd P h n f.type ((cs.toList.drop f.offset).take (P.cellsOf f.type)) mi := by
  obtain ⟨fuel, g⟩ := g
  cases fuel with
  | zero => exact g.elim
  | succ n =>
    unfold Rd at g
    obtain ⟨_, g⟩ := g
    rw [ht] at g
    obtain ⟨hl, ms, h1, h2, hf⟩ := g
    exact ⟨hl, ms, h1, h2, fun i f hi => by obtain ⟨mi, h3, h4⟩ := hf i f hi; exact ⟨mi, h3, n, h4⟩⟩

theorem rd_slice {P : Program} {h : Hp} {n : Nat} {t e : TypeId} {c : Value} {m : Nat} (ht : P.underlying t = some (.slice e)) (r : Rd P h n t [c] m) : ∃ s : Sl, c = .slice s.a s.len s.cap ∧ Arg P h t (.slice s.a s.len s.cap) m := by
  have r0 := r
  cases n with
  | zero => exact r.elim
  | succ n =>
    unfold Rd at r
    obtain ⟨_, r⟩ := r
    rw [ht] at r
    rcases r with e | ⟨a, len, cap, e, _⟩
    · obtain rfl : c = .slice none 0 0 := by simpa using e
      exact ⟨⟨none, 0, 0⟩, rfl, _, r0⟩
    · obtain rfl : c = .slice (some a) len cap := by simpa using e
      exact ⟨⟨some a, len, cap⟩, rfl, _, r0⟩

/-! Loads of an element's cells; a struct copied into a box. -/
theorem ldA_row {s : At} {h : Hp} {a : Addr} {cs : List Value} (hc : cellsAt h a cs) {j : Nat} {x : s.T} (hx : cs[j]? = some (s.v x)) {K : s.T → Prop} (hk : K x) : ldA s h (a.add j) K := ⟨x, hc.cell hx, hk⟩
theorem ldA_row0 {s : At} {h : Hp} {a : Addr} {cs : List Value} (hc : cellsAt h a cs) {x : s.T} (hx : cs[0]? = some (s.v x)) {K : s.T → Prop} (hk : K x) : ldA s h a K := ⟨x, hc.cell0 hx, hk⟩
def stores (h : Hp) (p : Addr) : Nat → List Value → (Hp → Prop) → Prop
  | _, [], K => K h
  | i, v :: vs, K => stC h (p.add i) (Let (hset h (p.add i) v) fun h' => stores h' p (i + 1) vs K)
theorem stores_blk {b : Nat} {K : Hp → Prop} : ∀ {vs : List Value} {h : Hp} {i : Nat} {c : Array Value}, Blk h b c → i + vs.length = c.size → (∀ h', Blk h' b (c.toList.take i ++ vs).toArray → Only b h h' → RKeep h h' → h'.size = h.size → K h') → stores h ⟨b, 0, none⟩ i vs K
  | [], h, i, c, r, hi, hk => by
    refine hk h ?_ (Only.refl _ _) (RKeep.refl _) rfl
    simp only [List.length_nil, Nat.add_zero] at hi
    subst hi
    rw [List.append_nil, ← Array.length_toList, List.take_length]
    exact r
  | v :: vs, h, i, c, r, hi, hk => by
    simp only [List.length_cons] at hi
    unfold stores
    rw [add_mk, Nat.zero_add]
    refine set_to r (by omega) fun h1 b1 o1 k1 z1 => stores_blk (c := c.setIfInBounds i v) b1 (by simp; omega) fun h2 b2 o2 k2 z2 => ?_
    refine hk h2 ?_ (o1.trans o2) (k1.trans k2) (z2.trans z1)
    have e : (c.setIfInBounds i v).toList.take (i + 1) ++ vs = c.toList.take i ++ v :: vs := by
      rw [Array.toList_setIfInBounds, List.take_add_one, List.take_set_of_le (Nat.le_refl _), List.getElem?_set_self (by rw [Array.length_toList]; omega)]
      simp
    rw [e] at b2; exact b2
/-- A struct laid into a box of its own. -/
theorem box_to {h : Hp} {e : TypeId} {c : Array Value} (vs : List Value) {K : Addr → Hp → Prop} (hlen : vs.length = c.size) (hk : ∀ h', Blk h' h.size vs.toArray → Ext h h' → h'.size = h.size + 1 → K ⟨h.size, 0, none⟩ h') :
    Let (Array.push h (Obj.cells c e)) fun h1 => Let (Addr.mk (Array.size h) 0 none) fun p => stores h1 p 0 vs (K p) :=
  push_to fun h1 b1 e1 z1 => let_to (stores_blk b1 (by omega) fun h2 b2 o2 _ z2 => hk h2 (by simpa using b2) (e1.only_new o2 (Nat.le_refl _)) (by omega))
theorem IsRow.only {α : Type} {enc : α → List Value} {size : Nat} {h h' : Hp} {s : Sl} {l : List α} {b0 : Nat} (r : IsRow enc size h s l) (o : Only b0 h h') (hb : ∀ a, s.a = some a → a.block ≠ b0) : IsRow enc size h' s l :=
  ⟨r.len, r.cap, r.at_, fun a i x ha hx j hj => by
    have := r.get a i x ha hx j hj
    have hlt := hcell_lt (a := (a.add (i * size)).add j) (by rw [this, List.getElem?_eq_getElem hj])
    rw [add_block, add_block] at hlt
    rw [← this]
    unfold hcell
    rw [add_block, add_block, o.get _ hlt (hb a ha)]⟩
theorem OwnRow.only {α : Type} {enc : α → List Value} {size B : Nat} {h h' : Hp} {s : Sl} {l : List α} {b0 : Nat} (r : OwnRow enc size B h s l) (o : Only b0 h h') (hb : b0 < B) : OwnRow enc size B h' s l := by
  refine ⟨r.row.only o fun a ha => by have := r.above a ha; omega, r.own.imp id fun ⟨b, c, e, h1, h2, h3, h4⟩ => ⟨b, c, e, h1, h2, ?_, h4⟩⟩
  rw [o.get b (block_lt h3) (by omega)]; exact h3

theorem OwnRow.lt {α : Type} {enc : α → List Value} {size B : Nat} {h : Hp} {s : Sl} {l : List α} (r : OwnRow enc size B h s l) : ∀ a, s.a = some a → a.block < h.size := by
  intro a ha
  rcases r.own with ⟨h1, _⟩ | ⟨b, c, e, h1, h2, h3, _⟩
  · rw [h1] at ha; cases ha
  · rw [h1] at ha; cases ha; exact block_lt h3

theorem idx_blk {b n : Nat} {i : Int} {size : Nat} {K : Addr → Prop} (h : 0 ≤ i ∧ i < (n : Int)) (hk : K ⟨b, i.toNat * size, none⟩) : idxS (some ⟨b, 0, none⟩) n i size K := by
  refine ⟨h, ?_⟩
  show K _
  rw [add_mk, Nat.zero_add]; exact hk
/-- The same append, where the region's order is open. -/
theorem app1x {α : Type} {enc : α → List Value} {size : Nat} (hE : Enc enc size) (hsz : 0 < size) {B : Nat} {h : Hp} {s : Sl} {l : List α} (own : OwnRow enc size B h s l) (hB : B ≤ h.size) {e e1 bytes : Nat} {zero : List Value}
    (hb : (l.length + 1) * bytes ≤ 140737488355328) (hb2 : 0 < bytes ∧ bytes ≤ 65536) (hz : zero.length = size) {c : Array Value} (x : α) (hc : c.toList = enc x)
    {K : Sl → Hp → Prop} (hk : ∀ s' h', OwnRow enc size B h' s' (l ++ [x]) → OnlyS s h h' → Bel B h h' → (s'.a = s.a ∨ ∃ b, s'.a = some ⟨b, 0, none⟩ ∧ h.size ≤ b) → K s' h') :
    Let (Array.push h (Obj.cells c e1)) fun h3 => Let (Addr.mk (Array.size h) 0 none) fun p => Ext h h3 ∧ appS e size bytes zero s.a s.len s.cap (.slice (some p) 1 1) h3 K :=
  ⟨Ext.push h _, app1 hE hsz own hB (e1 := e1) hb hb2 hz x hc hk⟩

/-! make; writes. -/
theorem replicate_flat {α : Type} {enc : α → List Value} {size : Nat} (hE : Enc enc size) (z : α) : ∀ n i, i < n * size → ((List.replicate n z).flatMap enc)[i]? = (enc z)[i % size]? := by
  intro n i hi
  have hs : 0 < size := by rcases Nat.eq_zero_or_pos size with h | h; (subst h; simp at hi); exact h
  have hq : i / size < n := (Nat.div_lt_iff_lt_mul hs).2 hi
  have := flat_get hE (l := List.replicate n z) (i := i / size) (j := i % size) (x := z) (by rw [List.getElem?_replicate, if_pos hq]) (Nat.mod_lt _ hs)
  rwa [Nat.div_add_mod'] at this
theorem mk_row {α : Type} {enc : α → List Value} {size : Nat} (hE : Enc enc size) {e : TypeId} {bytes : Nat} {zero : List Value} (z : α) (hz : enc z = zero) {l c : Int} {n k : Nat} (hl : l = n) (hc : c = k) (hnk : n ≤ k) {h : Hp} (hb : 0 < bytes ∧ k * bytes ≤ 140737488355328) {K : Sl → Hp → Prop}
    (hk : ∀ s' h', OwnRow enc size h.size h' s' (List.replicate n z) → Ext h h' → s'.len = n → s'.cap = k → K s' h') : mkS e size bytes zero l c h K := by
  subst hl; subst hc; subst hz
  refine ⟨⟨by omega, by omega⟩, ⟨hb.1, by have := hb.2; rw [← Int.natCast_mul]; omega⟩, ?_⟩
  have hblk : (h.push (.cells ((Array.range (k * size)).map fun i => (enc z).toArray[i % (enc z).length]!) e))[h.size]? = some (.cells ((Array.range (k * size)).map fun i => (enc z).toArray[i % (enc z).length]!) e) := by rw [Array.getElem?_push, if_pos rfl]
  simp only [Int.toNat_natCast]
  refine hk _ _ ⟨isRow_block hE hblk (List.length_replicate).symm hnk fun i hi => ?_, .inr ⟨h.size, _, e, rfl, Nat.le_refl _, hblk, by rw [Array.size_map, Array.size_range]⟩⟩ (Ext.push _ _) rfl rfl
  rw [List.length_replicate] at hi
  have hle : n * size ≤ k * size := Nat.mul_le_mul_right _ hnk
  rw [replicate_flat hE z n i hi, Array.getElem?_map, Array.getElem?_range, if_pos (by omega)]
  have hs : 0 < size := by rcases Nat.eq_zero_or_pos size with h | h; (subst h; simp at hi); exact h
  have hm : i % size < (enc z).length := by rw [hE.len]; exact Nat.mod_lt _ hs
  simp only [Option.map_some, hE.len]
  rw [List.getElem?_eq_getElem hm, getElem!_pos _ _ (by simpa using hm)]
  simp
theorem flat_one {α : Type} {enc : α → List Value} {f : α → Value} (hf : ∀ x, enc x = [f x]) : ∀ l : List α, l.flatMap enc = l.map f
  | [] => rfl
  | x :: l => by simp [hf, flat_one hf l]
theorem flatten_get {zero : List Value} : ∀ (n i : Nat), i < n * zero.length → (List.replicate n zero).flatten[i]? = zero[i % zero.length]?
  | 0, i, h => by simp at h
  | n + 1, i, h => by
    rw [List.replicate_succ, List.flatten_cons]
    by_cases h1 : i < zero.length
    · rw [List.getElem?_append_left h1, Nat.mod_eq_of_lt h1]
    · rw [List.getElem?_append_right (by omega), flatten_get n (i - zero.length) (by rw [Nat.add_mul] at h; omega), ← Nat.mod_eq_sub_mod (by omega)]
theorem mk_cells {zero : List Value} {size n : Nat} (hz : zero.length = size) : ((Array.range (n * size)).map fun i => zero.toArray[i % zero.length]!) = (List.replicate n zero).flatten.toArray := by
  subst hz
  apply Array.ext'
  apply List.ext_getElem?
  intro i
  simp only [Array.toList_map, Array.toList_range, List.getElem?_map]
  by_cases hi : i < n * zero.length
  · have hs : 0 < zero.length := by rcases Nat.eq_zero_or_pos zero.length with h | h; (rw [h] at hi; simp at hi); exact h
    have hm : i % zero.length < zero.length := Nat.mod_lt _ hs
    rw [List.getElem?_range hi, flatten_get n i hi, List.getElem?_eq_getElem hm]
    simp only [Option.map_some]
    rw [getElem!_pos _ _ (by simpa using hm)]
    simp
  · rw [List.getElem?_eq_none (by simpa using hi), List.getElem?_eq_none (by simp; omega)]; rfl
/-- A made slice of a few cells. -/
theorem mk_blk {e : TypeId} {size bytes : Nat} {zero : List Value} {l c : Int} {n : Nat} (hl : l = n) (hc : c = n) {h : Hp} (hb : 0 < bytes ∧ n * bytes ≤ 140737488355328) {cs : Array Value} (hz : zero.length = size) (hcs : (List.replicate n zero).flatten.toArray = cs) {K : Sl → Hp → Prop}
    (hk : ∀ h', Blk h' h.size cs → Ext h h' → h'.size = h.size + 1 → K ⟨some ⟨h.size, 0, none⟩, n, n⟩ h') : mkS e size bytes zero l c h K := by
  subst hl; subst hc; subst hcs
  refine ⟨⟨by omega, by omega⟩, ⟨hb.1, by have := hb.2; rw [← Int.natCast_mul]; omega⟩, ?_⟩
  simp only [Int.toNat_natCast, mk_cells hz]
  exact hk _ (Blk.new _ _ _) (Ext.push _ _) (by simp)
/-- 's[i] = x', where an element takes one cell. -/
theorem own_set {α : Type} {enc : α → List Value} (hE : Enc enc 1) {B : Nat} {h : Hp} {s : Sl} {l : List α} (own : OwnRow enc 1 B h s l) {i : Int} {k : Nat} (hi : i = k) (hk : k < l.length) {x : α} {v : Value} (hv : enc x = [v]) {K : Hp → Prop}
    (hK : ∀ h', OwnRow enc 1 B h' s (l.set k x) → OnlyS s h h' → RKeep h h' → h'.size = h.size → K h') : idxS s.a s.len i 1 fun p => ((1 : Nat) = 1) ∧ stC h p (Let (hset h p v) K) := by
  subst hi
  rcases own.own with ⟨h1, h2⟩ | ⟨b, c, e, h1, h2, h3, h4⟩
  · have := own.row.len; have := own.row.cap; omega
  · refine ⟨⟨by omega, by rw [own.row.len]; omega⟩, ?_⟩
    rw [h1]
    show (1 : Nat) = 1 ∧ _
    simp only [Int.toNat_natCast, Nat.mul_one, add_mk, Nat.zero_add]
    have hcap := own.row.cap
    have hlen := own.row.len
    have hkc : k < c.size := by omega
    refine ⟨trivial, stC_blk ⟨e, h3⟩ hkc (hK _ ⟨?_, .inr ⟨b, _, e, h1, h2, hset_block h3, by simp [h4]⟩⟩ ?_ (RKeep.set _ _ _) (hset_size _ _ _))⟩
    · have hr : s = ⟨some ⟨b, 0, none⟩, s.len, s.cap⟩ := by cases s; simp only at h1; subst h1; rfl
      rw [hr]
      refine isRow_block hE (hset_block h3) (by simp [hlen]) hcap fun j hj => ?_
      simp only [List.length_set, Nat.mul_one] at hj
      have hone : ∀ y : α, ∃ u, enc y = [u] := fun y => by
        have := hE.len y
        match enc y, this with
        | [u], _ => exact ⟨u, rfl⟩
      have hg : ∀ (l' : List α) (j : Nat), (l'.flatMap enc)[j]? = (l'[j]?).bind fun y => (enc y)[0]? := by
        intro l' j
        cases hy : l'[j]? with
        | none => rw [List.getElem?_eq_none]; rfl; rw [flat_len hE]; simpa using hy
        | some y => have := flat_get hE hy (j := 0) (by omega); rw [Nat.mul_one, Nat.add_zero] at this; exact this
      rw [hg, List.getElem?_set, Array.getElem?_setIfInBounds]
      by_cases e1 : k = j
      · subst e1
        rw [if_pos rfl, if_pos rfl, if_pos hkc, if_pos hk]
        simp [hv]
      · rw [if_neg e1, if_neg e1]
        have hj2 : l[j]? = some l[j] := List.getElem?_eq_getElem hj
        have := own.row.get ⟨b, 0, none⟩ j _ h1 hj2 0 (by rw [hE.len]; omega)
        rw [add_mk, add_mk, hcell_of h3, Nat.zero_add, Nat.mul_one, Nat.add_zero] at this
        rw [this, hj2]; rfl
    · refine ⟨by rw [hset_size]; exact Nat.le_refl _, fun j hj hn => ?_⟩
      exact hset_other (hn ⟨b, 0, none⟩ h1)
theorem OwnRow.bel {α : Type} {enc : α → List Value} {size B B' : Nat} {h h' : Hp} {s : Sl} {l : List α} (r : OwnRow enc size B h s l) (x : Bel B' h h') (hs : ∀ a, s.a = some a → a.block < B') : OwnRow enc size B h' s l := by
  refine ⟨r.row.bel hs x, ?_⟩
  rcases r.own with h0 | ⟨b, c, e, h1, h2, h3, h4⟩
  · exact .inl h0
  · exact .inr ⟨b, c, e, h1, h2, by rw [x.get b (hs _ h1)]; exact h3, h4⟩
end Go.Proofs.YtlkaipmhjgfkpaaDoorK
