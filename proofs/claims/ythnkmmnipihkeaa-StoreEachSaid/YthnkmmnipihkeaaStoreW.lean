/- Chapter 15: the store. No condition. -/
import Derived.Test.YthnkmmnipihkeaaStArena
namespace Go.Proofs.YthnkmmnipihkeaaF
open Go Go.Proofs.YthnkmmnipihkeaaK
set_option linter.unusedSimpArgs false
set_option linter.unusedVariables false

/-- An item. -/
structure It where
  id : Int
  ob : Ob
/-- Two rows, thing by thing. -/
def A2 {α β : Type} (R : α → β → Prop) (l : List α) (m : List β) : Prop := l.length = m.length ∧ ∀ (i : Nat) x y, l[i]? = some x → m[i]? = some y → R x y
theorem A2.nil {α β : Type} {R : α → β → Prop} : A2 R [] [] := ⟨rfl, fun i x y h => by cases h⟩
theorem A2.cons {α β : Type} {R : α → β → Prop} {x : α} {y : β} {l : List α} {m : List β} (h : R x y) (k : A2 R l m) : A2 R (x :: l) (y :: m) := by
  refine ⟨by simp [k.1], fun i a b ha hb => ?_⟩
  cases i with
  | zero => simp at ha hb; subst ha; subst hb; exact h
  | succ i => exact k.2 i a b (by simpa using ha) (by simpa using hb)
theorem A2.app {α β : Type} {R : α → β → Prop} {l l' : List α} {m m' : List β} (h : A2 R l m) (k : A2 R l' m') : A2 R (l ++ l') (m ++ m') := by
  refine ⟨by simp [h.1, k.1], fun i a b ha hb => ?_⟩
  by_cases hi : i < l.length
  · rw [List.getElem?_append_left hi] at ha
    rw [List.getElem?_append_left (by rw [← h.1]; exact hi)] at hb
    exact h.2 i a b ha hb
  · rw [List.getElem?_append_right (by omega)] at ha
    rw [List.getElem?_append_right (by rw [← h.1]; omega), ← h.1] at hb
    exact k.2 _ a b ha hb
theorem A2.take {α β : Type} {R : α → β → Prop} {l : List α} {m : List β} (h : A2 R l m) (n : Nat) : A2 R (l.take n) (m.take n) := by
  refine ⟨by simp [h.1], fun i a b ha hb => ?_⟩
  rw [List.getElem?_take] at ha hb
  split at ha
  · rename_i hi; rw [if_pos hi] at hb; exact h.2 i a b ha hb
  · cases ha
theorem A2.drop {α β : Type} {R : α → β → Prop} {l : List α} {m : List β} (h : A2 R l m) (n : Nat) : A2 R (l.drop n) (m.drop n) := by
  refine ⟨by simp [h.1], fun i a b ha hb => ?_⟩
  rw [List.getElem?_drop] at ha hb
  exact h.2 _ a b ha hb
theorem A2.ins {α β : Type} {R : α → β → Prop} {x : α} {y : β} {l : List α} {m : List β} (k : A2 R l m) (h : R x y) (n : Nat) : A2 R (insAt l n x) (insAt m n y) := (k.take n).app (A2.cons h (k.drop n))
theorem A2.cut {α β : Type} {R : α → β → Prop} {l : List α} {m : List β} (k : A2 R l m) (n : Nat) : A2 R (l.take n ++ l.drop (n + 1)) (m.take n ++ m.drop (n + 1)) := (k.take n).app (k.drop (n + 1))
theorem A2.imp {α β : Type} {R R' : α → β → Prop} {l : List α} {m : List β} (k : A2 R l m) (h : ∀ x y, x ∈ l → y ∈ m → R x y → R' x y) : A2 R' l m := ⟨k.1, fun i x y hx hy => h x y (List.mem_of_getElem? hx) (List.mem_of_getElem? hy) (k.2 i x y hx hy)⟩
theorem A2.map {α β γ : Type} {R : α → β → Prop} {f : α → γ} {g : β → γ} {l : List α} {m : List β} (k : A2 R l m) (h : ∀ x y, R x y → f x = g y) : l.map f = m.map g := by
  apply List.ext_getElem?
  intro i
  rw [List.getElem?_map, List.getElem?_map]
  cases hx : l[i]? with
  | none =>
    have : m[i]? = none := by rw [List.getElem?_eq_none_iff] at hx ⊢; rw [← k.1]; exact hx
    rw [this]; rfl
  | some x =>
    have hi := (List.getElem?_eq_some_iff.1 hx).1
    have hy : m[i]? = some (m[i]'(by rw [← k.1]; exact hi)) := List.getElem?_eq_getElem _
    rw [hy]
    simp only [Option.map_some]
    rw [h x _ (k.2 i x _ hx hy)]

structure SP where
  la : Nat
  da : Nat
  l : Sl
  f : Sl
  ds : Sl
  slots : List (StA ST)
  F : List Int
  d : List (StA RW)
  vb : Nat → Prop
def dfp (p : Nat) (s : Sl) (b : Nat) : Prop := b = p ∨ ∃ a, s.a = some a ∧ a.block = b
def SP.fa (S : SP) : Nat → Prop := afp S.la S.l S.f
def SP.fd (S : SP) : Nat → Prop := dfp S.da S.ds
def fp (p : Nat) (S : SP) (b : Nat) : Prop := b = p ∨ S.fa b ∨ S.fd b ∨ S.vb b
/-- An entry of the directory, and its item. -/
def Ent (h : Hp) (S : SP) (x : StA RW) (it : It) : Prop := rId x = it.id ∧ it.ob.ok ∧ ∃ (k : Nat) (v : Sl), rSl x = k ∧ S.slots[k]? = some (true, it.ob.tag, v, it.ob.str, ()) ∧ V32 h v it.ob.vec ∧ ∀ a, v.a = some a → S.vb a.block
structure SW (h : Hp) (p : Nat) (S : SP) (its : List It) : Prop where
  b : Blk h p #[.pointer (some ⟨S.la, 0, none⟩), .pointer (some ⟨S.da, 0, none⟩)]
  A : AW h S.la S.l S.f S.slots S.F
  D : DW h S.da S.ds S.d
  pa : ¬ S.fa p
  pd : ¬ S.fd p
  ad : ∀ b, S.fa b → ¬ S.fd b
  vs : ∀ b, S.vb b → b < h.size ∧ b ≠ p ∧ ¬ S.fa b ∧ ¬ S.fd b
  ent : A2 (Ent h S) S.d its
  inj : (S.d.map rSl).Nodup
  free : ∀ x ∈ S.F, ∃ k : Nat, x = k ∧ ∃ y, S.slots[k]? = some y ∧ sU y = false
  fnd : S.F.Nodup
  cnt : S.slots.length = S.d.length + S.F.length
theorem DW.fpk {h h' : Hp} {p : Nat} {s : Sl} {d : List (StA RW)} (q : DW h p s d) (hk : ∀ b, dfp p s b → h'[b]? = h[b]?) : DW h' p s d := q.keep (hk p (.inl rfl)) fun a ha => hk _ (.inr ⟨a, ha, rfl⟩)
theorem DW.fplt {h : Hp} {p : Nat} {s : Sl} {d : List (StA RW)} (q : DW h p s d) : ∀ b, dfp p s b → b < h.size := by
  rintro b (rfl | ⟨a, ha, rfl⟩)
  · exact q.b.lt
  · exact q.o.lt a ha
theorem SW.lt {h : Hp} {p : Nat} {S : SP} {its : List It} (q : SW h p S its) : ∀ b, fp p S b → b < h.size := by
  rintro b (rfl | h1 | h1 | h1)
  · exact q.b.lt
  · exact q.A.lt b h1
  · exact q.D.fplt b h1
  · exact (q.vs b h1).1
theorem Ent.keep {h h' : Hp} {S : SP} {x : StA RW} {it : It} (r : Ent h S x it) (hk : ∀ b, S.vb b → h'[b]? = h[b]?) : Ent h' S x it := by
  obtain ⟨h1, h2, k, v, h3, h4, h5, h6⟩ := r
  exact ⟨h1, h2, k, v, h3, h4, row_keep h5 fun a ha => hk _ (h6 a ha), h6⟩
theorem SW.keep {h h' : Hp} {p : Nat} {S : SP} {its : List It} (q : SW h p S its) (hs : h.size ≤ h'.size) (hk : ∀ b, fp p S b → h'[b]? = h[b]?) : SW h' p S its := by
  obtain ⟨e, hb⟩ := q.b
  exact ⟨⟨e, by rw [hk p (.inl rfl)]; exact hb⟩, q.A.keep fun b hb => hk b (.inr (.inl hb)), q.D.fpk fun b hb => hk b (.inr (.inr (.inl hb))), q.pa, q.pd, q.ad, fun b hb => by have := q.vs b hb; exact ⟨by omega, this.2⟩,
    q.ent.imp fun x y _ _ r => r.keep fun b hb => hk b (.inr (.inr (.inr hb))), q.inj, q.free, q.fnd, q.cnt⟩
theorem SW.ext {h h' : Hp} {p : Nat} {S : SP} {its : List It} (q : SW h p S its) (x : Ext h h') : SW h' p S its := q.keep x.size fun b hb => x.get b (q.lt b hb)
structure SGrow (p : Nat) (S S' : SP) (h h' : Hp) : Prop where
  size : h.size ≤ h'.size
  get : ∀ b, b < h.size → ¬ fp p S b → h'[b]? = h[b]?
  nw : ∀ b, fp p S' b → fp p S b ∨ h.size ≤ b
theorem SW.ids {h : Hp} {p : Nat} {S : SP} {its : List It} (q : SW h p S its) : S.d.map rId = its.map (·.id) := q.ent.map fun x y r => r.1
theorem SW.len {h : Hp} {p : Nat} {S : SP} {its : List It} (q : SW h p S its) : S.d.length = its.length := q.ent.1
theorem SW.ris {h : Hp} {p : Nat} {S : SP} {its : List It} (q : SW h p S its) : Ris (its.map (·.id)) := by rw [← q.ids]; exact q.D.ris
theorem SW.ldl {h : Hp} {p : Nat} {S : SP} {its : List It} (q : SW h p S its) {K : Option Addr → Prop} (hK : K (some ⟨S.la, 0, none⟩)) : ldA .ptr h ⟨p, 0, none⟩ K := ldA_blk (s := .ptr) (i := 0) (x := some ⟨S.la, 0, none⟩) q.b rfl hK
theorem SW.ldd {h : Hp} {p : Nat} {S : SP} {its : List It} (q : SW h p S its) {K : Option Addr → Prop} (hK : K (some ⟨S.da, 0, none⟩)) : ldA .ptr h ⟨p, 1, none⟩ K := ldA_blk (s := .ptr) (i := 1) (x := some ⟨S.da, 0, none⟩) q.b rfl hK
theorem s_New {h : Hp} {K : Option Addr → Hp → Prop} (hK : ∀ p S h', SW h' p S [] → S.slots = [] → (∀ b, fp p S b → h.size ≤ b) → Ext h h' → K (some ⟨p, 0, none⟩) h') : C_store_New h K := by
  refine F_store_New_ok _ _ (a_New fun h1 qa e1 => d_New fun h2 qd e2 => push_to fun h3 b3 e3 z3 => let_to ?_)
  have hla := qa.b.lt
  have hda := qd.b.lt
  refine hK h2.size ⟨h.size, h1.size, ⟨none, 0, 0⟩, ⟨none, 0, 0⟩, ⟨none, 0, 0⟩, [], [], [], fun _ => False⟩ h3 ⟨b3, (qa.ext e2).ext e3, qd.ext e3, ?_, ?_, ?_, fun b hb => hb.elim, A2.nil, List.nodup_nil, fun x hx => (by cases hx), List.nodup_nil, rfl⟩ rfl ?_ ((e1.trans e2).trans e3)
  · rintro (h | ⟨a, ha, _⟩ | ⟨a, ha, _⟩)
    · have := e2.size; simp only at h; omega
    · cases ha
    · cases ha
  · rintro (h | ⟨a, ha, _⟩)
    · simp only at h; omega
    · cases ha
  · rintro b (h | ⟨a, ha, _⟩ | ⟨a, ha, _⟩) (h' | ⟨a', ha', _⟩)
    · simp only at h h'; omega
    · cases ha'
    · cases ha
    · cases ha
    · cases ha
    · cases ha
  · have := e1.size; have := e2.size
    rintro b (h | (h | ⟨a, ha, _⟩ | ⟨a, ha, _⟩) | (h | ⟨a, ha, _⟩) | h)
    · omega
    · simp only at h; omega
    · cases ha
    · cases ha
    · simp only at h; omega
    · cases ha
    · exact h.elim
theorem s_Has {h : Hp} {p : Nat} {S : SP} {its : List It} (q : SW h p S its) (hl : its.length ≤ 4611686018427387904) {id : Int} {K : Bool → Hp → Prop} (hK : ∀ h', Ext h h' → K (decide (id ∈ its.map (·.id))) h') : C_store_Store_Has (some ⟨p, 0, none⟩) id h K := by
  refine F_store_Store_Has_ok _ _ _ _ (cnd_no rfl (q.ldd (d_Find q.D (by rw [q.len]; exact hl) (fun x h' e hx hid => ?_) fun h' e hn => ?_)))
  · have : id ∈ its.map (·.id) := by rw [← q.ids, ← hid]; exact List.mem_map.2 ⟨x, hx, rfl⟩
    have := hK h' e
    rw [decide_eq_true (by assumption)] at this; exact this
  · have := hK h' e
    rw [q.ids] at hn
    rw [decide_eq_false hn] at this; exact this
theorem s_Len {h : Hp} {p : Nat} {S : SP} {its : List It} (q : SW h p S its) {K : Int → Hp → Prop} (hK : K (its.length : Int) h) : C_store_Store_Len (some ⟨p, 0, none⟩) h K :=
  F_store_Store_Len_ok _ _ _ (cnd_no rfl (q.ldd (d_Len q.D (by rw [q.len]; exact hK))))
/-- The thing of a number is told in memory of its own. -/
theorem s_Get {h : Hp} {p : Nat} {S : SP} {its : List It} (q : SW h p S its) (hl : its.length ≤ 4611686018427387904) {id : Int} {K : Int → Sl → ByteArray → Bool → Hp → Prop}
    (h1 : ∀ it v h', it ∈ its → it.id = id → OwnRow e32 1 h.size h' v it.ob.vec → Ext h h' → K it.ob.tag v it.ob.str true h') (h2 : ∀ h', id ∉ its.map (·.id) → Ext h h' → K 0 ⟨none, 0, 0⟩ (ByteArray.mk #[]) false h') : C_store_Store_Get (some ⟨p, 0, none⟩) id h K := by
  refine F_store_Store_Get_ok _ _ _ _ (push_to fun g1 b1 e1 z1 => let_to (cnd_no rfl ?_))
  have q1 := q.ext e1
  refine q1.ldd (d_Find q1.D (by rw [q.len]; exact hl) (fun x g2 e2 hx hid => ?_) fun g2 e2 hn => ?_)
  · refine cnd_no rfl ((q1.ext e2).ldl ?_)
    have q2 := q1.ext e2
    obtain ⟨i, hi⟩ := List.getElem?_of_mem hx
    have hil := (List.getElem?_eq_some_iff.1 hi).1
    have hit : its[i]? = some (its[i]'(by rw [← q.len]; exact hil)) := List.getElem?_eq_getElem _
    generalize (its[i]'(by rw [← q.len]; exact hil)) = it at hit
    obtain ⟨hid2, hok, k, v, hk, hs, hv, hvb⟩ := q2.ent.2 i x it hi hit
    refine a_Get q2.A hk hs fun g3 e3 => ?_
    refine box_to [.int .i64 it.ob.tag, .slice v.a v.len v.cap, .string it.ob.str] rfl fun g4 b4 e4 z4 => ?_
    refine ldA_blk (s := .int .i64) (i := 0) (x := it.ob.tag) b4 rfl (ldA_blk (s := .sl) (i := 1) (x := v) b4 rfl (ldA_blk (s := .str) (i := 2) (x := it.ob.str) b4 rfl ?_))
    refine c_Clone ((hv.ext e3).ext e4) hok fun w g5 o5 e5 => ?_
    have b5 := (((b1.ext e2).ext e3).ext e4).ext e5
    refine set_to (i := 0) b5 (by simp) fun h9 b9 o9 _ z9 => set_to (i := 1) b9 (by simp) fun h10 b10 o10 _ z10 => set_to (i := 2) b10 (by simp) fun h11 b11 o11 _ z11 => ?_
    refine ldA_blk (s := .int .i64) (i := 0) (x := it.ob.tag) b11 rfl (ldA_blk (s := .sl) (i := 1) (x := w) b11 rfl (ldA_blk (s := .str) (i := 2) (x := it.ob.str) b11 rfl ?_))
    have x5 : Ext h g5 := (((e1.trans e2).trans e3).trans e4).trans e5
    have hb := b1.lt
    have z2 := e2.size; have z3 := e3.size
    refine h1 it w h11 (List.mem_of_getElem? hit) (hid2.symm.trans hid) ?_ (((x5.only_new o9 (Nat.le_refl _)).only_new o10 (by omega)).only_new o11 (by omega))
    exact (((o5.only o9 (by omega)).only o10 (by omega)).only o11 (by omega)).weaken (by omega)
  · have b2 := b1.ext e2
    refine cnd_yes rfl (set_to (i := 0) b2 (by simp) fun h9 b9 o9 _ z9 => set_to (i := 1) b9 (by simp) fun h10 b10 o10 _ z10 => set_to (i := 2) b10 (by simp) fun h11 b11 o11 _ z11 => ?_)
    refine ldA_blk (s := .int .i64) (i := 0) (x := 0) b11 rfl (ldA_blk (s := .sl) (i := 1) (x := ⟨none, 0, 0⟩) b11 rfl (ldA_blk (s := .str) (i := 2) (x := ByteArray.mk #[]) b11 rfl ?_))
    rw [q.ids] at hn
    exact h2 h11 hn ((((e1.trans e2).only_new o9 (Nat.le_refl _)).only_new o10 (by omega)).only_new o11 (by omega))
end Go.Proofs.YthnkmmnipihkeaaF
