/- Chapter 15: the arena. No condition. -/
import Derived.Test.YthnkmmnipihkeaaStObj
namespace Go.Proofs.YthnkmmnipihkeaaF
open Go Go.Proofs.YthnkmmnipihkeaaK
set_option linter.unusedSimpArgs false
set_option linter.unusedVariables false

theorem app_full {α : Type} {enc : α → List Value} {size : Nat} (hE : Enc enc size) {h : Hp} {s t : Sl} {l ys : List α} (row : IsRow enc size h s l) (src : IsRow enc size h t ys) (hfull : s.cap < l.length + ys.length) {e bytes : Nat} {zero : List Value}
    (hb : (l.length + ys.length) * bytes ≤ 140737488355328) (hb2 : 0 < bytes ∧ bytes ≤ 65536) (hz : zero.length = size)
    {K : Sl → Hp → Prop} (hk : ∀ s' h', OwnRow enc size h.size h' s' (l ++ ys) → Ext h h' → K s' h') : appS e size bytes zero s.a s.len s.cap (.slice t.a t.len t.cap) h K := by
  have hl := row.len
  have hsl := src.len
  unfold appS srcLen
  show appB e size bytes zero s.a s.len s.cap (.slice t.a t.len t.cap) h K t.len
  unfold appB
  rw [hsl]
  refine ⟨fun hfit => by omega, fun hgrow => ⟨by rw [hl]; exact hb, hb2, ?_⟩⟩
  have h1 := srcCells_row hE src (K := fun new => srcCells h (s.len * size) (.slice s.a s.len s.cap) fun old => ∀ c, s.len + ys.length ≤ c → K ⟨some ⟨h.size, 0, none⟩, s.len + ys.length, c⟩ (h.push (.cells (old ++ new ++ (Builtin.zeroCells zero.toArray (c - (s.len + ys.length))).toList).toArray e)))
    (srcCells_row hE row fun c hc => by
      have hblk : (h.push (.cells (l.flatMap enc ++ ys.flatMap enc ++ (Builtin.zeroCells zero.toArray (c - (s.len + ys.length))).toList).toArray e))[h.size]? = some (.cells (l.flatMap enc ++ ys.flatMap enc ++ (Builtin.zeroCells zero.toArray (c - (s.len + ys.length))).toList).toArray e) := by
        rw [Array.getElem?_push, if_pos rfl]
      refine hk _ _ ⟨isRow_block hE hblk (by simp [hl]) hc fun i hi => ?_, .inr ⟨h.size, _, e, rfl, Nat.le_refl _, hblk, ?_⟩⟩ (Ext.push _ _)
      · rw [List.getElem?_toArray, List.getElem?_append_left (by simp only [List.length_append, flat_len hE]; simpa [Nat.add_mul] using hi), List.flatMap_append]
      · have : (Builtin.zeroCells zero.toArray (c - (s.len + ys.length))).size = (c - (s.len + ys.length)) * size := by simp [Builtin.zeroCells, hz]
        simp only [List.size_toArray, List.length_append, flat_len hE, Array.length_toList, this, ← hl]
        rw [← Nat.add_mul, ← Nat.add_mul]
        congr 1; omega)
  rw [hsl] at h1
  exact h1

abbrev eN : Int → List Value := Go.Proofs.YthnkmmnipihkeaaK.encI .i64
theorem eN_ok : Enc eN 1 := encI_ok .i64
abbrev ST : List At := [.bool, .int .i64, .sl, .str]
theorem ST_ok : Enc (vsA ST) 4 := encA rfl
abbrev sU (x : StA ST) : Bool := x.1
def Sep (x y : Sl) : Prop := ∀ a c, x.a = some a → y.a = some c → a.block ≠ c.block
theorem Sep.symm {x y : Sl} (h : Sep x y) : Sep y x := fun a c ha hc e => h c a hc ha e.symm
/-- A slice's block is as it was, or a new one. -/
def Nw (n : Nat) (s s' : Sl) : Prop := ∀ a, s'.a = some a → (∃ c, s.a = some c ∧ c.block = a.block) ∨ n ≤ a.block
theorem Nw.refl (n : Nat) (s : Sl) : Nw n s s := fun a ha => .inl ⟨a, ha, rfl⟩
theorem Nw.trans {n m : Nat} {s t u : Sl} (h : Nw n s t) (k : Nw m t u) (hm : n ≤ m) : Nw n s u := fun a ha => by
  rcases k a ha with ⟨c, hc, e⟩ | h1
  · rcases h c hc with ⟨d, hd, e2⟩ | h2
    · exact .inl ⟨d, hd, e2.trans e⟩
    · exact .inr (e ▸ h2)
  · exact .inr (Nat.le_trans hm h1)
theorem Nw.of {n : Nat} {s s' : Sl} (h : s'.a = s.a ∨ ∃ b, s'.a = some ⟨b, 0, none⟩ ∧ n ≤ b) : Nw n s s' := fun a ha => by
  rcases h with h | ⟨b, hb, hn⟩
  · exact .inl ⟨a, h ▸ ha, rfl⟩
  · rw [hb] at ha; cases ha; exact .inr hn
theorem Sep.nw {x y x' : Sl} {n : Nat} (h : Sep x y) (hx : Nw n x x') (hy : ∀ c, y.a = some c → c.block < n) : Sep x' y := fun a c ha hc e => by
  rcases hx a ha with ⟨d, hd, e2⟩ | h2
  · exact h d c hd hc (e2.trans e)
  · have := hy c hc; omega
/-- A row of numbers that is popped and pushed. -/
structure FRow (B : Nat) (h : Hp) (f : Sl) (F : List Int) : Prop where
  row : IsRow eN 1 h f F
  own : (f.a = none ∧ f.cap = 0) ∨ ∃ b c e, f.a = some ⟨b, 0, none⟩ ∧ B ≤ b ∧ h[b]? = some (.cells c e (0, 0)) ∧ (c.size = f.cap * 1 ∨ f.len = f.cap)
theorem FRow.lt {B : Nat} {h : Hp} {f : Sl} {F : List Int} (r : FRow B h f F) : ∀ a, f.a = some a → a.block < h.size := by
  intro a ha
  rcases r.own with ⟨h1, _⟩ | ⟨b, c, e, h1, h2, h3, _⟩
  · rw [h1] at ha; cases ha
  · rw [h1] at ha; cases ha; exact block_lt h3
theorem FRow.above {B : Nat} {h : Hp} {f : Sl} {F : List Int} (r : FRow B h f F) : ∀ a, f.a = some a → B ≤ a.block := by
  intro a ha
  rcases r.own with ⟨h1, _⟩ | ⟨b, c, e, h1, h2, h3, _⟩
  · rw [h1] at ha; cases ha
  · rw [h1] at ha; cases ha; exact h2
theorem row_keep {α : Type} {enc : α → List Value} {size : Nat} {h h' : Hp} {s : Sl} {l : List α} (r : IsRow enc size h s l) (hk : ∀ a, s.a = some a → h'[a.block]? = h[a.block]?) : IsRow enc size h' s l :=
  ⟨r.len, r.cap, r.at_, fun a i x ha hx j hj => by
    have := r.get a i x ha hx j hj
    rw [← this]; unfold hcell; rw [add_block, add_block, hk a ha]⟩
theorem FRow.keep {B : Nat} {h h' : Hp} {f : Sl} {F : List Int} (r : FRow B h f F) (hk : ∀ a, f.a = some a → h'[a.block]? = h[a.block]?) : FRow B h' f F :=
  ⟨row_keep r.row hk, r.own.imp id fun ⟨b, c, e, h1, h2, h3, h4⟩ => ⟨b, c, e, h1, h2, by rw [hk _ h1]; exact h3, h4⟩⟩
theorem FRow.of {B : Nat} {h : Hp} {f : Sl} {F : List Int} (o : OwnRow eN 1 B h f F) : FRow B h f F := ⟨o.row, o.own.imp id fun ⟨b, c, e, h1, h2, h3, h4⟩ => ⟨b, c, e, h1, h2, h3, .inl h4⟩⟩
theorem FRow.push {B : Nat} {h : Hp} {f : Sl} {F : List Int} (r : FRow B h f F) (hB : B ≤ h.size) (hb : (F.length + 1) * 8 ≤ 140737488355328) {e e1 : Nat} {v : Int} {K : Sl → Hp → Prop} (hk : ∀ f' h', FRow B h' f' (F ++ [v]) → OnlyS f h h' → Nw h.size f f' → K f' h') :
    Let (Array.push h (Obj.cells #[.int .i64 v] e1)) fun h3 => Let (Addr.mk (Array.size h) 0 none) fun p => appS e 1 8 [.int .i64 0] f.a f.len f.cap (.slice (some p) 1 1) h3 K := by
  have own : (OwnRow eN 1 B h f F) ∨ f.len = f.cap := by
    rcases r.own with h0 | ⟨b, c, e, h1, h2, h3, h4 | h4⟩
    · exact .inl ⟨r.row, .inl h0⟩
    · exact .inl ⟨r.row, .inr ⟨b, c, e, h1, h2, h3, h4⟩⟩
    · exact .inr h4
  rcases own with o | hf
  · exact app1 eN_ok (by decide) o hB hb (by decide) rfl v rfl fun f' h' o' u b n => hk f' h' (FRow.of o') u (Nw.of n)
  · refine push_to fun h3 b3 e3 z3 => let_to ?_
    have src : IsRow eN 1 h3 ⟨some ⟨h.size, 0, none⟩, 1, 1⟩ [v] := Blk.row eN_ok b3 (l := [v]) (cap := 1) (Nat.le_refl _) rfl
    have hl := r.row.len
    refine app_full eN_ok (r.row.ext e3) src (by simp; omega) (by simpa using hb) (by decide) rfl fun f' h' o' x' => hk f' h' (FRow.of (o'.weaken (Nat.le_trans hB e3.size))) ((e3.trans x').onlyS f) ?_
    exact fun a ha => .inr (Nat.le_trans e3.size (o'.above a ha))

/-- An arena in memory. -/
structure AW (h : Hp) (p : Nat) (l f : Sl) (d : List (StA ST)) (F : List Int) : Prop where
  b : Blk h p #[.slice l.a l.len l.cap, .slice f.a f.len f.cap]
  o : OwnRow (vsA ST) 4 (p + 1) h l d
  fr : FRow (p + 1) h f F
  sep : Sep l f
def afp (p : Nat) (l f : Sl) (b : Nat) : Prop := b = p ∨ (∃ a, l.a = some a ∧ a.block = b) ∨ ∃ a, f.a = some a ∧ a.block = b
theorem AW.keep {h h' : Hp} {p : Nat} {l f : Sl} {d : List (StA ST)} {F : List Int} (q : AW h p l f d F) (hk : ∀ b, afp p l f b → h'[b]? = h[b]?) : AW h' p l f d F := by
  obtain ⟨e, hb⟩ := q.b
  exact ⟨⟨e, by rw [hk p (.inl rfl)]; exact hb⟩, own_keep q.o fun a ha => hk _ (.inr (.inl ⟨a, ha, rfl⟩)), q.fr.keep fun a ha => hk _ (.inr (.inr ⟨a, ha, rfl⟩)), q.sep⟩
theorem AW.lt {h : Hp} {p : Nat} {l f : Sl} {d : List (StA ST)} {F : List Int} (q : AW h p l f d F) : ∀ b, afp p l f b → b < h.size := by
  rintro b (rfl | ⟨a, ha, rfl⟩ | ⟨a, ha, rfl⟩)
  · exact q.b.lt
  · exact q.o.lt a ha
  · exact q.fr.lt a ha
theorem AW.ext {h h' : Hp} {p : Nat} {l f : Sl} {d : List (StA ST)} {F : List Int} (q : AW h p l f d F) (x : Ext h h') : AW h' p l f d F := q.keep fun b hb => x.get _ (q.lt b hb)
structure AGrow (p : Nat) (l f l' f' : Sl) (h h' : Hp) : Prop where
  size : h.size ≤ h'.size
  get : ∀ b, b < h.size → ¬ afp p l f b → h'[b]? = h[b]?
  nl : Nw h.size l l'
  nf : Nw h.size f f'
theorem AW.ldl {h : Hp} {p : Nat} {l f : Sl} {d : List (StA ST)} {F : List Int} (q : AW h p l f d F) {K : Sl → Prop} (hK : K l) : ldA .sl h ⟨p, 0, none⟩ K := ldA_blk (s := .sl) (i := 0) (x := l) q.b rfl hK
theorem AW.ldf {h : Hp} {p : Nat} {l f : Sl} {d : List (StA ST)} {F : List Int} (q : AW h p l f d F) {K : Sl → Prop} (hK : K f) : ldA .sl h ⟨p, 1, none⟩ K := ldA_blk (s := .sl) (i := 1) (x := f) q.b rfl hK
theorem a_New {h : Hp} {K : Option Addr → Hp → Prop} (hK : ∀ h', AW h' h.size ⟨none, 0, 0⟩ ⟨none, 0, 0⟩ [] [] → Ext h h' → K (some ⟨h.size, 0, none⟩) h') : C_arena_New_api_Object h K :=
  F_arena_New_api_Object_ok _ _ (push_to fun h1 b1 e1 z1 => let_to (hK h1 ⟨b1, OwnRow.nil _ _ _ _, ⟨IsRow.nil _ _ _ _, .inl ⟨rfl, rfl⟩⟩, fun a c ha => by cases ha⟩ e1))
theorem a_has {h : Hp} {p : Nat} {l f : Sl} {d : List (StA ST)} {F : List Int} (q : AW h p l f d F) {i : Int} {k : Nat} {x : StA ST} (hi : i = k) (hx : d[k]? = some x) {K : Bool → Hp → Prop} (hK : K (sU x) h) : C_arena_Arena_api_Object_has (some ⟨p, 0, none⟩) i h K := by
  subst hi
  have hl := q.o.row.len
  have hk := (List.getElem?_eq_some_iff.1 hx).1
  refine F_arena_Arena_api_Object_has_ok _ _ _ _ (cnd_yes rfl (cnd_yes (decide_eq_true (by omega)) (q.ldl (cnd_yes (decide_eq_true (by omega)) (q.ldl ?_)))))
  exact ld_row q.o.row (i := (k : Int)) (x := x) (by omega) (by simpa using hx) fun a _ hc => ldA_row0 (s := .bool) hc (x := sU x) rfl hK
theorem a_Get {h : Hp} {p : Nat} {l f : Sl} {d : List (StA ST)} {F : List Int} (q : AW h p l f d F) {i tag : Int} {k : Nat} {v : Sl} {str : ByteArray} (hi : i = k) (hx : d[k]? = some (true, tag, v, str, ())) {K : Int → Sl → ByteArray → Bool → Hp → Prop} (hK : ∀ h', Ext h h' → K tag v str true h') : C_arena_Arena_api_Object_Get (some ⟨p, 0, none⟩) i h K := by
  refine F_arena_Arena_api_Object_Get_ok _ _ _ _ (push_to fun h1 b1 e1 z1 => let_to (a_has (q.ext e1) hi hx (cnd_no rfl ?_)))
  refine (q.ext e1).ldl ?_
  subst hi
  refine ld_row (q.ext e1).o.row (i := (k : Int)) (x := (true, tag, v, str, ())) (by omega) (by simpa using hx) fun a0 _ hc => ?_
  generalize Addr.add a0 ((k : Int).toNat * 4) = a at hc ⊢
  refine ldA_row (s := .int .i64) (j := 1) (x := tag) hc rfl ?_
  have c2 : hcell h1 (Addr.add (Addr.add a 1) 1) = some (.slice v.a v.len v.cap) := by rw [add_add]; exact hc.cell (j := 2) rfl
  have c3 : hcell h1 (Addr.add (Addr.add a 1) 2) = some (.string str) := by rw [add_add]; exact hc.cell (j := 3) rfl
  refine ⟨v, c2, ⟨str, c3, ?_⟩⟩
  refine set_to (i := 0) b1 (by simp) fun h9 b9 o9 _ z9 => set_to (i := 1) b9 (by simp) fun h10 b10 o10 _ z10 => set_to (i := 2) b10 (by simp) fun h11 b11 o11 _ z11 => ?_
  refine ldA_blk (s := .int .i64) (i := 0) (x := tag) b11 rfl (ldA_blk (s := .sl) (i := 1) (x := v) b11 rfl (ldA_blk (s := .str) (i := 2) (x := str) b11 rfl ?_))
  exact hK h11 (((e1.only_new o9 (Nat.le_refl _)).only_new o10 (by omega)).only_new o11 (by omega))
/-- The first free place, and what is free behind. -/
theorem a_Put {h : Hp} {p : Nat} {l f : Sl} {d : List (StA ST)} {F : List Int} (q : AW h p l f d F) {tag : Int} {v : Sl} {str : ByteArray} (hl : (d.length + 1) * 56 ≤ 140737488355328) (hF : F.length ≤ 4611686018427387904) (hFr : ∀ x ∈ F, ∃ k : Nat, x = k ∧ k < d.length) {K : Int → Hp → Prop}
    (h1 : ∀ l' f' h', F = [] → AW h' p l' f' (d ++ [(true, tag, v, str, ())]) [] → AGrow p l f l' f' h h' → K (d.length : Int) h')
    (h2 : ∀ F0 (k : Nat) l' f' h', F = F0 ++ [(k : Int)] → k < d.length → AW h' p l' f' (d.set k (true, tag, v, str, ())) F0 → AGrow p l f l' f' h h' → K (k : Int) h') : C_arena_Arena_api_Object_Put (some ⟨p, 0, none⟩) tag v str h K := by
  refine F_arena_Arena_api_Object_Put_ok _ _ _ _ _ _ (push_to fun g1 b1 e1 z1 => let_to (cnd_no rfl ?_))
  have q1 := q.ext e1
  have hfl := q1.fr.row.len
  have hdl := q1.o.row.len
  have hp := q.b.lt
  have hpg : p + 1 ≤ g1.size := by have := q1.b.lt; omega
  refine q1.ldf (let_to ?_)
  rw [wrap_i64 (by omega) (by omega)]
  have obj : ∀ {g : Hp} {K : Int → Sl → ByteArray → Prop}, Blk g h.size #[.int .i64 tag, .slice v.a v.len v.cap, .string str] → K tag v str → ldA (.int .i64) g ⟨h.size, 0, none⟩ fun a => ldA .sl g ⟨h.size, 1, none⟩ fun c => ldA .str g ⟨h.size, 2, none⟩ fun d => K a c d := fun {g K} r hk =>
    ldA_blk (s := .int .i64) (i := 0) (x := tag) r rfl (ldA_blk (s := .sl) (i := 1) (x := v) r rfl (ldA_blk (s := .str) (i := 2) (x := str) r rfl hk))
  refine cnd_dec.2 ⟨fun hneg => q1.ldl (obj b1 ?_), fun hpos => q1.ldf ?_⟩
  · have hF0 : F = [] := List.length_eq_zero_iff.1 (by omega)
    refine app1x ST_ok (by decide) q1.o hpg (by simpa using hl) (by decide) rfl ((true, tag, v, str, ()) : StA ST) rfl fun l' g2 o2 u2 b2 n2 => ⟨rfl, ?_⟩
    have pl : ∀ a, l.a = some a → p ≠ a.block := fun a ha => by have := q.o.above a ha; omega
    have bp : Blk g2 p #[.slice l.a l.len l.cap, .slice f.a f.len f.cap] := q1.b.onlyS u2 pl
    have hu2 := u2.1
    refine set_to (i := 0) bp (by simp) fun g3 b3 o3 k3 z3 => ldA_blk (s := .sl) (i := 0) (x := l') b3 rfl (let_to ?_)
    have ol := o2.row.len
    rw [List.length_append] at ol
    rw [wrap_i64 (by simp at ol; omega) (by simp at ol; omega), show (l'.len : Int) - 1 = (d.length : Int) by simp at ol; omega]
    refine h1 l' f g3 hF0 ⟨b3, own_keep o2 fun a ha => o3.get _ (o2.lt a ha) (by have := o2.above a ha; omega), ?_, ?_⟩ ⟨by have := e1.size; omega, fun b hb hn => ?_, ?_, Nw.refl _ _⟩
    · subst hF0
      refine q1.fr.keep fun a ha => ?_
      have h1 := q1.fr.lt a ha
      rw [o3.get _ (by omega) (by have := q1.fr.above a ha; omega), u2.2 _ h1 fun c hc e => q.sep c a hc ha e.symm]
    · exact q.sep.nw (Nw.of n2) q1.fr.lt
    · rw [o3.get b (by have := e1.size; omega) fun e => hn (.inl e), u2.2 b (by have := e1.size; omega) (fun c hc e => hn (.inr (.inl ⟨c, hc, e.symm⟩))), e1.get b hb]
    · intro a ha
      rcases Nw.of n2 a ha with h | h
      · exact .inl h
      · exact .inr (by have := e1.size; omega)
  · obtain ⟨F0, w, hFe⟩ : ∃ F0 w, F = F0 ++ [w] := ⟨F.dropLast, F.getLast (by intro e; subst e; simp at hfl; omega), (List.dropLast_concat_getLast _).symm⟩
    obtain ⟨k, hwk, hkd⟩ := hFr w (by rw [hFe]; simp)
    subst hwk
    have hFl : F.length = F0.length + 1 := by rw [hFe]; simp
    have hgF : F[F0.length]? = some (k : Int) := by rw [hFe, List.getElem?_append_right (Nat.le_refl _)]; simp
    refine ld_int0 q1.fr.row (i := (f.len : Int) - 1) (x := (k : Int)) (by omega) (by rw [show ((f.len : Int) - 1).toNat = F0.length by omega]; exact hgF) (q1.ldf ?_)
    have hcap := q1.fr.row.cap
    refine ⟨⟨by omega, by omega⟩, ⟨by omega, by omega⟩, ⟨by simp, by simp; omega⟩, ?_⟩
    have e0 : (if ((f.len : Int) - 1).toNat = ((none : Option Int).getD 0).toNat then f.a else f.a.map (·.add (((none : Option Int).getD 0).toNat * 1))) = f.a := by
      split
      · rfl
      · cases f.a with
        | none => rfl
        | some a => simp [add_zero]
    rw [e0]
    have e9 : ((f.len : Int) - 1).toNat - ((none : Option Int).getD 0).toNat = F0.length := by simp; omega
    rw [e9]
    have pl : ∀ a, l.a = some a → p ≠ a.block := fun a ha => by have := q.o.above a ha; omega
    have pf : ∀ a, f.a = some a → a.block ≠ p := fun a ha => by have := q.fr.above a ha; omega
    refine ⟨rfl, set_to (i := 1) q1.b (by simp) fun g2 b2 o2 k2 z2 => ?_⟩
    have hg12 := e1.size
    have bx : Blk g2 h.size #[.int .i64 tag, .slice v.a v.len v.cap, .string str] := b1.only o2 (by omega)
    have ol2 : OwnRow (vsA ST) 4 (p + 1) g2 l d := own_keep q1.o fun a ha => o2.get _ (q1.o.lt a ha) (by have := q1.o.above a ha; omega)
    have fr2 : FRow (p + 1) g2 ⟨f.a, F0.length, F0.length⟩ F0 := by
      refine ⟨?_, ?_⟩
      · have := (q1.fr.row.take (n := F0.length) (by omega))
        rw [hFe, List.take_left' rfl] at this
        have t2 : IsRow eN 1 g1 ⟨f.a, F0.length, F0.length⟩ F0 := ⟨rfl, Nat.le_refl _, this.at_, this.get⟩
        exact row_keep t2 fun a ha => o2.get _ (q1.fr.lt a ha) (pf a ha)
      · rcases q1.fr.own with ⟨h1, h2⟩ | ⟨b, c, e, h1, h2, h3, h4⟩
        · omega
        · exact .inr ⟨b, c, e, h1, h2, by rw [o2.get b (block_lt h3) (by omega)]; exact h3, .inr rfl⟩
    refine ldA_blk (s := .sl) (i := 0) (x := l) b2 rfl (obj bx ?_)
    refine own_put ST_ok (by decide) ol2 (i := (k : Int)) (k := k) rfl hkd ((true, tag, v, str, ()) : StA ST) fun g3 o3 u3 k3 z3 => ?_
    refine h2 F0 k l ⟨f.a, F0.length, F0.length⟩ g3 hFe hkd ⟨b2.onlyS u3 pl, o3, fr2.keep fun a ha => ?_, q.sep⟩ ⟨by omega, fun b hb hn => ?_, Nw.refl _ _, fun a ha => .inl ⟨a, ha, rfl⟩⟩
    · exact u3.2 _ (fr2.lt a ha) fun c hc e => q.sep c a hc ha e.symm
    · rw [u3.2 b (by omega) (fun c hc e => hn (.inr (.inl ⟨c, hc, e.symm⟩))), o2.get b (by omega) fun e => hn (.inl e), e1.get b hb]
theorem a_Cut {h : Hp} {p : Nat} {l f : Sl} {d : List (StA ST)} {F : List Int} (q : AW h p l f d F) (hF : (F.length + 1) * 8 ≤ 140737488355328) {k : Nat} {x : StA ST} (hx : d[k]? = some x) (hu : sU x = true) {i : Int} (hi : i = k) {K : Bool → Hp → Prop}
    (hK : ∀ l' f' h', AW h' p l' f' (d.set k (false, 0, ⟨none, 0, 0⟩, ByteArray.mk #[], ())) (F ++ [(k : Int)]) → AGrow p l f l' f' h h' → K true h') : C_arena_Arena_api_Object_Cut (some ⟨p, 0, none⟩) i h K := by
  subst hi
  have hkd := (List.getElem?_eq_some_iff.1 hx).1
  refine F_arena_Arena_api_Object_Cut_ok _ _ _ _ (a_has q rfl hx (cnd_not.2 (cnd_yes hu (q.ldl ?_))))
  have pl : ∀ a, l.a = some a → p ≠ a.block := fun a ha => by have := q.o.above a ha; omega
  refine own_put ST_ok (by decide) q.o (i := (k : Int)) (k := k) rfl hkd ((false, 0, ⟨none, 0, 0⟩, ByteArray.mk #[], ()) : StA ST) fun g3 o3 u3 k3 z3 => ?_
  have b3 := q.b.onlyS u3 pl
  refine ldA_blk (s := .sl) (i := 1) (x := f) b3 rfl ?_
  have fr3 : FRow (p + 1) g3 f F := q.fr.keep fun a ha => u3.2 _ (q.fr.lt a ha) fun c hc e => q.sep c a hc ha e.symm
  have hp := q.b.lt
  refine fr3.push (by omega) hF fun f' g4 fr4 u4 n4 => ⟨rfl, ?_⟩
  have b4 : Blk g4 p #[.slice l.a l.len l.cap, .slice f.a f.len f.cap] := b3.onlyS u4 fun a ha => by have := q.fr.above a ha; omega
  refine set_to (i := 1) b4 (by simp) fun g5 b5 o5 k5 z5 => ?_
  have hu4 := u4.1
  refine hK l f' g5 ⟨b5, own_keep o3 fun a ha => ?_, fr4.keep fun a ha => o5.get _ (fr4.lt a ha) (by have := fr4.above a ha; omega), ?_⟩ ⟨by omega, fun b hb hn => ?_, Nw.refl _ _, ?_⟩
  · have h1 := o3.lt a ha
    rw [o5.get _ (by omega) (by have := o3.above a ha; omega), u4.2 _ h1 fun c hc e => q.sep a c ha hc e]
  · exact (q.sep.symm.nw n4 o3.lt).symm
  · rw [o5.get b (by omega) fun e => hn (.inl e), u4.2 b (by omega) (fun c hc e => hn (.inr (.inr ⟨c, hc, e.symm⟩))), u3.2 b hb (fun c hc e => hn (.inr (.inl ⟨c, hc, e.symm⟩)))]
  · intro a ha
    rcases n4 a ha with h | h
    · exact .inl h
    · exact .inr (by omega)
end Go.Proofs.YthnkmmnipihkeaaF
