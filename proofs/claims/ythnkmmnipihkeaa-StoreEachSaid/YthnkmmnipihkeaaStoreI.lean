/- Chapter 15: all things, and going through them. No condition. -/
import Derived.Test.YthnkmmnipihkeaaStoreX
namespace Go.Proofs.YthnkmmnipihkeaaF
open Go Go.Proofs.YthnkmmnipihkeaaK
set_option linter.unusedSimpArgs false
set_option linter.unusedVariables false

abbrev IT : List At := [.int .u64, .int .i64, .sl, .str]
theorem IT_ok : Enc (vsA IT) 4 := encA rfl
abbrev iV (x : StA IT) : Sl := x.2.2.1
/-- An item, as memory has it. -/
structure ItR (h : Hp) (x : StA IT) (it : It) : Prop where
  id : x.1 = it.id
  tag : x.2.1 = it.ob.tag
  str : x.2.2.2.1 = it.ob.str
  vec : V32 h (iV x) it.ob.vec
  ok : it.ob.ok
theorem ItR.ext {h h' : Hp} {x : StA IT} {it : It} (r : ItR h x it) (e : Ext h h') : ItR h' x it := ⟨r.id, r.tag, r.str, r.vec.ext e, r.ok⟩
theorem ItR.keep {h h' : Hp} {x : StA IT} {it : It} (r : ItR h x it) (hk : ∀ a, (iV x).a = some a → h'[a.block]? = h[a.block]?) : ItR h' x it := ⟨r.id, r.tag, r.str, row_keep r.vec hk, r.ok⟩
theorem row_keepC {α : Type} {enc : α → List Value} {size : Nat} {h h' : Hp} {s : Sl} {l : List α} (r : IsRow enc size h s l) (hk : ∀ a c e fr, s.a = some a → h[a.block]? = some (.cells c e fr) → h'[a.block]? = h[a.block]?) : IsRow enc size h' s l :=
  ⟨r.len, r.cap, r.at_, fun a i x ha hx j hj => by
    have := r.get a i x ha hx j hj
    rw [List.getElem?_eq_getElem hj] at this ⊢
    cases ho : h[a.block]? with
    | none => unfold hcell at this; rw [add_block, add_block, ho] at this; cases this
    | some o =>
      cases o with
      | cells c e fr =>
        have h2 := hk a c e fr ha ho
        rw [← this]; unfold hcell; rw [add_block, add_block, h2]
      | _ => unfold hcell at this; rw [add_block, add_block, ho] at this; cases this⟩
theorem ItR.keepC {h h' : Hp} {x : StA IT} {it : It} (r : ItR h x it) (hk : ∀ a c e fr, (iV x).a = some a → h[a.block]? = some (.cells c e fr) → h'[a.block]? = h[a.block]?) : ItR h' x it := ⟨r.id, r.tag, r.str, row_keepC r.vec hk, r.ok⟩
/-- The vectors lie between two blocks. -/
def VB (lo hi : Nat) (xs : List (StA IT)) : Prop := ∀ x ∈ xs, ∀ a, (iV x).a = some a → lo ≤ a.block ∧ a.block < hi
theorem VB.snoc {lo hi : Nat} {xs : List (StA IT)} {x : StA IT} (h : VB lo hi xs) (hx : ∀ a, (iV x).a = some a → lo ≤ a.block ∧ a.block < hi) : VB lo hi (xs ++ [x]) := fun y hy => by
  rcases List.mem_append.1 hy with hy | hy
  · exact h y hy
  · obtain rfl := List.mem_singleton.1 hy; exact hx
theorem VB.up {lo hi hi' : Nat} {xs : List (StA IT)} (h : VB lo hi xs) (hh : hi ≤ hi') : VB lo hi' xs := fun x hx a ha => by have := h x hx a ha; omega
theorem A2.snoc {α β : Type} {R : α → β → Prop} {l : List α} {m : List β} {x : α} {y : β} {i : Nat} (k : A2 R l (m.take i)) (hy : m[i]? = some y) (h : R x y) : A2 R (l ++ [x]) (m.take (i + 1)) := by
  rw [List.take_add_one, hy]; exact k.app (A2.cons h A2.nil)
theorem eSl_cell {x : StA IT} : vsA IT x = [.int .u64 x.1, .int .i64 x.2.1, .slice (iV x).a (iV x).len (iV x).cap, .string x.2.2.2.1] := rfl
/-- What 'all' owes. -/
def AllOf (sp : Option Addr) (R : Hp → Prop) (its : List It) : Prop := ∀ (h1 : Hp) (K : Sl → Hp → Prop), R h1 → (∀ t xs h', OwnRow (vsA IT) 4 h1.size h' t xs → A2 (ItR h') xs its → VB h1.size h'.size xs → Ext h1 h' → K t h') → C_store_Store_all sp h1 K
theorem all_nil : AllOf none (fun _ => True) [] := fun h1 K _ hK => F_store_Store_all_ok _ _ _ (cnd_yes rfl (hK _ [] h1 (OwnRow.nil _ _ _ _) A2.nil (fun x hx => by cases hx) (Ext.refl _)))
theorem all_some {p : Nat} {S : SP} {its : List It} (hl : its.length * 56 ≤ 140737488355328) : AllOf (some ⟨p, 0, none⟩) (fun h => SW h p S its) its := by
  intro h1 K q hK
  refine F_store_Store_all_ok _ _ _ (cnd_no rfl (q.ldd (d_Ids q.D (by rw [q.len]; omega) fun t g2 o2 e2 => ?_)))
  have hids := q.ids
  rw [hids] at o2
  have htl := o2.row.len
  rw [List.length_map] at htl
  refine Lp.inv (fun st => ∃ (k : Nat) (xs : List (StA IT)), st.1.2.1 = (k : Int) ∧ k ≤ its.length ∧ Ext g2 st.2 ∧ OwnRow (vsA IT) 4 h1.size st.2 st.1.1 xs ∧ A2 (ItR st.2) xs (its.take k) ∧ VB h1.size st.2.size xs ∧ (∀ a, st.1.1.a = some a → g2.size ≤ a.block) ∧ ∀ x ∈ xs, Sep (iV x) st.1.1) (fun st => its.length - st.1.2.1.toNat) ?_
    ⟨0, [], rfl, by omega, Ext.refl _, OwnRow.nil _ _ _ _, A2.nil, fun x hx => (by cases hx), fun a ha => (by cases ha), fun x hx => (by cases hx)⟩
  rintro ⟨⟨out, i, ⟨⟩⟩, g⟩ R ⟨k, xs, hi, hk, xe, oo, rel, vb, hob, hsep⟩ hR
  simp only at hi xe oo rel vb hob hsep
  subst hi
  unfold L1_store_Store_all
  dsimp only
  refine cnd_dec.2 ⟨fun hlt => ?_, fun hge => ?_⟩
  · have hit : its[k]? = some (its[k]'(by omega)) := List.getElem?_eq_getElem _
    generalize (its[k]'(by omega)) = it at hit
    have hid : (its.map (·.id))[k]? = some it.id := by rw [List.getElem?_map, hit]; rfl
    refine ld_int0 (o2.row.ext xe) (by omega) (by simpa using hid) ?_
    have qg := (q.ext e2).ext xe
    have h12 := e2.size
    have h2g := xe.size
    refine s_Get qg (by omega) (fun it' v g3 hm hie ov e3 => ?_) fun g3 hn e3 => (hn (List.mem_of_getElem? hid)).elim
    have : it' = it := by
      obtain ⟨j, hj⟩ := List.getElem?_of_mem hm
      have hjd : (its.map (·.id))[j]? = some it.id := by rw [List.getElem?_map, hj, ← hie]; rfl
      have := q.ris.inj hjd hid
      subst this
      rw [hit] at hj; exact (Option.some.inj hj).symm
    subst this
    have hok : it'.ob.ok := by
      have hkd : k < S.d.length := by rw [q.len]; omega
      exact (q.ent.2 k _ it' (List.getElem?_eq_getElem hkd) hit).2.1
    refine box_to [.int .i64 it'.ob.tag, .slice v.a v.len v.cap, .string it'.ob.str] rfl fun g4 b4 e4 z4 => ?_
    refine ldA_blk (s := .int .i64) (i := 0) (x := it'.ob.tag) b4 rfl (ldA_blk (s := .sl) (i := 1) (x := v) b4 rfl (ldA_blk (s := .str) (i := 2) (x := it'.ob.str) b4 rfl ?_))
    have e34 := e3.trans e4
    have h34 := e34.size
    have oo4 := oo.ext e34
    have hnl := rel.1
    rw [List.length_take] at hnl
    refine app1 IT_ok (by decide) oo4 (by omega) (by omega) (by decide) rfl ((it'.id, it'.ob.tag, v, it'.ob.str, ()) : StA IT) rfl fun out' g5 o5 u5 b5 n5 => let_to ?_
    rw [wrap_i64 (by omega) (by omega)]
    have hz3 := e3.size
    have hz5 := u5.1
    have svo : Sep v out := fun a c ha hc e => by have := ov.above a ha; have := oo.lt c hc; omega
    have snw : ∀ {s : Sl}, Sep s out → (∀ a, s.a = some a → a.block < g4.size) → Sep s out' := fun hs hlt => (hs.symm.nw (Nw.of n5) hlt).symm
    have vlt : ∀ a, v.a = some a → a.block < g4.size := fun a ha => by have := ov.lt a ha; have := e4.size; omega
    have xlt : ∀ x ∈ xs, ∀ a, (iV x).a = some a → a.block < g4.size := fun x hx a ha => by have := (vb x hx a ha).2; omega
    refine hR _ ⟨k + 1, xs ++ [(it'.id, it'.ob.tag, v, it'.ob.str, ())], rfl, by omega, ?_, o5, ?_, ?_, ?_, ?_⟩ (by show its.length - ((k : Int) + 1).toNat < its.length - (k : Int).toNat; omega)
    · show Ext g2 g5
      refine ⟨by omega, fun b hb => ?_⟩
      rw [u5.2 b (by omega) (fun a ha => by have := hob a ha; omega), e34.get b (by omega), xe.get b hb]
    · refine A2.snoc (rel.imp fun x y hx _ r => (r.ext e34).keep fun a ha => u5.2 _ (xlt x hx a ha) fun c hc e => hsep x hx a c ha hc e) hit ?_
      exact ⟨rfl, rfl, rfl, row_keep (ov.row.ext e4) fun a ha => u5.2 _ (vlt a ha) fun c hc e => svo a c ha hc e, hok⟩
    · show VB h1.size g5.size _
      refine (vb.up (by omega)).snoc fun a ha => ?_
      have := ov.above a ha
      have := vlt a ha
      omega
    · show ∀ a, out'.a = some a → g2.size ≤ a.block
      intro a ha
      rcases Nw.of n5 a ha with ⟨c, hc, e⟩ | h
      · have := hob c hc; omega
      · omega
    · intro x hx
      rcases List.mem_append.1 hx with hx | hx
      · exact snw (hsep x hx) (xlt x hx)
      · obtain rfl := List.mem_singleton.1 hx
        exact snw svo vlt
  · obtain rfl : k = its.length := by omega
    rw [List.take_length] at rel
    exact hK out xs g oo rel vb (e2.trans xe)

/-- What is known of a thing that is yielded. -/
def Yd (lo : Nat) (its : List It) (S : Nat) (pre : List (StA IT)) (x : StA IT) (h : Hp) : Prop := ∃ it, its[pre.length]? = some it ∧ ItR h x it ∧ ∀ a, (iV x).a = some a → lo ≤ a.block ∧ a.block < S
def EachOf (v : Value) (lo : Nat) (Rd : Hp → Prop) (its : List It) : Prop := IterQ Try.prog v (.agg IT) Rd (Yd lo its) (fun xs => xs.length = its.length) (fun pre => 0 < pre.length ∧ pre.length ≤ its.length)
theorem s_Each {h : Hp} {sp : Option Addr} {R : Hp → Prop} {its : List It} (hl : its.length ≤ 4611686018427387904) (all : AllOf sp R its) {K : Value → Hp → Prop}
    (hK : ∀ gf lb pb h', EachOf (.func (.func gf) #[] lb) h.size (fun g => h.size ≤ g.size ∧ Blk g pb #[.pointer sp] ∧ R g) its → h.size ≤ pb → Blk h' pb #[.pointer sp] → Ext h h' → K (.func (.func gf) #[] lb) h') : C_store_Store_Each sp h K := by
  refine F_store_Store_Each_ok _ _ _ (push_to fun h1 b1 e1 z1 => let_to (hK _ _ h.size h1 ⟨_, _, rfl, by kernel_rfl, ?_⟩ (Nat.le_refl _) b1 e1))
  intro yv J0 J Jx g hJ0 hJ hJx hR0 hR hs hround h0
  obtain ⟨hlo, hb, hr⟩ := hR0 g h0
  refine F_store_Store_Each_1_ok _ _ _ _ ?_
  unfold F_store_Store_Each_1
  show someA (some (⟨h.size, 0, none⟩ : Addr)) _
  rw [someA_some]
  refine ldA_blk (s := .ptr) (i := 0) (x := sp) hb rfl (all g _ hr fun t xs g4 ot rel vb e4 => ?_)
  have hxl := rel.1
  have htl := ot.row.len
  have hz4 := e4.size
  have hStart : J g4.size [] g4 := hs _ _ (Nat.le_refl _) (hJ0 _ _ h0 (Stp.ofExt e4 (Nat.le_refl _)))
  refine Lp.inv (fun st => ∃ k : Nat, st.1.1 = (k : Int) ∧ k ≤ xs.length ∧ J g4.size (xs.take k) st.2 ∧ g4.size ≤ st.2.size ∧ OwnRow (vsA IT) 4 g.size st.2 t xs ∧ A2 (ItR st.2) xs its) (fun st => xs.length - st.1.1.toNat) ?_ ⟨0, rfl, by omega, (show J g4.size (xs.take 0) g4 from hStart), Nat.le_refl _, ot, rel⟩
  rintro ⟨⟨i, ⟨⟩⟩, w⟩ R1 ⟨k, hi, hk, hj, hws, otw, relw⟩ hR1
  simp only at hi hj hws otw relw
  subst hi
  unfold L1_store_Store_Each_1
  dsimp only
  refine cnd_dec.2 ⟨fun hlt => ?_, fun hge => ?_⟩
  · have hx : xs[k]? = some (xs[k]'(by omega)) := List.getElem?_eq_getElem _
    have hit : its[k]? = some (its[k]'(by omega)) := List.getElem?_eq_getElem _
    generalize (xs[k]'(by omega)) = x at hx
    generalize (its[k]'(by omega)) = it at hit
    refine ld_row otw.row (i := (k : Int)) (x := x) (by omega) (by simpa using hx) fun a0 _ hc => ?_
    refine ldA_row0 (s := .int .u64) (x := x.1) hc rfl (ldA_row (s := .int .i64) (j := 1) (x := x.2.1) hc rfl (ldA_row (s := .sl) (j := 2) (x := iV x) hc rfl (ldA_row (s := .str) (j := 3) (x := x.2.2.2.1) hc rfl ?_)))
    refine box_to [.int .u64 x.1, .int .i64 x.2.1, .slice (iV x).a (iV x).len (iV x).cap, .string x.2.2.2.1] rfl fun w2 b2 e2 z2 => ?_
    refine ldA_blk (s := .int .u64) (i := 0) (x := x.1) b2 rfl (ldA_blk (s := .int .i64) (i := 1) (x := x.2.1) b2 rfl (ldA_blk (s := .sl) (i := 2) (x := iV x) b2 rfl (ldA_blk (s := .str) (i := 3) (x := x.2.2.2.1) b2 rfl ?_)))
    have hgw : g.size ≤ w.size := by omega
    have hj2 := hJ g4.size _ _ _ hj (Stp.ofExt e2 hgw)
    have hkl : (xs.take k).length = k := by rw [List.length_take]; omega
    have hxit := relw.2 k x it hx hit
    have hvb := vb x (List.mem_of_getElem? hx)
    have hn : xs.take (k + 1) = xs.take k ++ [x] := by rw [List.take_add_one, hx]; rfl
    refine (hround g4.size (xs.take k) x w2 ⟨it, by rw [hkl]; exact hit, hxit.ext e2, fun a ha => by have := hvb a ha; omega⟩ hj2).mono ?_
    rintro ⟨r, ⟨⟩⟩ w3 (⟨hr1, hj3, hkp⟩ | ⟨hr1, hj3⟩)
    · simp only at hr1
      subst hr1
      refine cnd_not.2 (cnd_yes rfl (let_to ?_))
      rw [wrap_i64 (by omega) (by omega)]
      have keep : ∀ (a : Addr), g.size ≤ a.block → a.block < g4.size → ∀ c e fr, w2[a.block]? = some (.cells c e fr) → w3[a.block]? = w2[a.block]? := fun a h1 h2 c e fr h3 => hkp.2 _ c e fr h1 h2 h3
      refine hR1 _ ⟨k + 1, rfl, by omega, by rw [hn]; exact hj3, (show g4.size ≤ w3.size by have := hkp.1; omega), ?_, ?_⟩ (by show xs.length - ((k : Int) + 1).toNat < xs.length - (k : Int).toNat; omega)
      · have o2 := otw.ext e2
        refine own_keep o2 fun a ha => ?_
        have h1 := ot.lt a ha
        rcases o2.own with ⟨h2, _⟩ | ⟨b, c, e, h2, h3, h4, _⟩
        · rw [h2] at ha; cases ha
        · rw [h2] at ha; cases ha
          exact keep ⟨b, 0, none⟩ h3 h1 c e _ h4
      · exact relw.imp fun y z hy _ ry => (ry.ext e2).keepC fun a c e fr ha h4 => keep a (vb y hy a ha).1 (vb y hy a ha).2 c e fr h4
    · simp only at hr1
      subst hr1
      refine cnd_not.2 (cnd_no rfl ?_)
      exact .inr ⟨_, _, ⟨by simp, by rw [List.length_append, hkl, List.length_singleton]; omega⟩, hj3⟩
  · obtain rfl : k = xs.length := by omega
    rw [List.take_length] at hj
    exact .inl ⟨_, xs, hxl, hj⟩
end Go.Proofs.YthnkmmnipihkeaaF
