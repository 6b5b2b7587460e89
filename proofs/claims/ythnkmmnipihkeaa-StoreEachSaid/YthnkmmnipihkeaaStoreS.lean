/- Chapter 15: items answered; the document's own rows. No condition. -/
import Derived.Test.YthnkmmnipihkeaaStoreI
namespace Go.Proofs.YthnkmmnipihkeaaF
open Go Go.Proofs.YthnkmmnipihkeaaK
set_option linter.unusedSimpArgs false
set_option linter.unusedVariables false

theorem rkeep_own {α : Type} {enc : α → List Value} {size B : Nat} {h h' : Hp} {s : Sl} {l : List α} (o : OwnRow enc size B h s l) (u : OnlyS s h h') : RKeep h h' := fun k r e => by
  rw [u.2 k (block_lt e) fun a ha hk => ?_]; exact e
  rcases o.own with ⟨h1, _⟩ | ⟨b, c, el, h1, _, h3, _⟩
  · rw [h1] at ha; cases ha
  · rw [h1] at ha; cases ha
    subst hk
    rw [h3] at e; cases e
theorem ItR.stp {B : Nat} {h h' : Hp} {x : StA IT} {it : It} (r : ItR h x it) (st : Stp B h h') : ItR h' x it := ⟨r.id, r.tag, r.str, r.vec.stp st, r.ok⟩
theorem s_Items {h : Hp} {sp : Option Addr} {R : Hp → Prop} {its : List It} (hl : its.length * 56 ≤ 140737488355328) (all : AllOf sp R its) (hR : ∀ g, Ext h g → R g) {K : Sl → Hp → Prop}
    (hK : ∀ t xs h', IsRow (vsA IT) 4 h' t xs → A2 (ItR h') xs its → Ext h h' → K t h') : C_store_Store_Items sp h K := by
  refine F_store_Store_Items_ok _ _ _ (push_to fun h1 b1 e1 z1 => let_to (s_Each (by omega) all fun gf lb pb h4 it hpb b4 e4 => ?_))
  have z4 := e4.size
  have x4 := e1.trans e4
  refine rngF_ofQ it (fun g => h4.size ≤ g.size ∧ Ext h g ∧ Blk g pb #[.pointer sp] ∧ Blk g h.size #[.slice none 0 0])
    (fun S pre g => h4.size ≤ g.size ∧ Ext h g ∧ Blk g pb #[.pointer sp] ∧ S ≤ g.size ∧ pre.length ≤ its.length ∧ ∃ s : Sl, Blk g h.size #[.slice s.a s.len s.cap] ∧ OwnRow (vsA IT) 4 h4.size g s pre ∧ (∀ a, s.a = some a → S ≤ a.block) ∧ A2 (ItR g) pre (its.take pre.length) ∧ VB h1.size S pre)
    (fun _ _ _ _ => False) ?_ ?_ (fun _ _ _ _ _ h => h.elim) ?_ ?_ ?_ ⟨Nat.le_refl _, x4, b4, b1.ext e4⟩ ?_ ?_ (fun _ _ _ _ _ h => h.elim)
  · rintro g1 g2 ⟨a1, a2, a3, a4⟩ st
    exact ⟨Nat.le_trans a1 st.size, st.ext a2 (by omega), a3.stp st, a4.stp st⟩
  · rintro S pre g1 g2 ⟨a1, a2, a3, a4, a5, s, a6, a7, a8, a9, a10⟩ st
    exact ⟨Nat.le_trans a1 st.size, st.ext a2 (by omega), a3.stp st, Nat.le_trans a4 st.size, a5, s, a6.stp st, a7.stp st, a8, a9.imp fun _ _ _ _ r => r.stp st, a10⟩
  · rintro g ⟨a1, a2, a3, a4⟩
    exact ⟨by omega, a3, hR g a2⟩
  · rintro S pre g ⟨a1, a2, a3, _⟩
    exact ⟨by omega, a3, hR g a2⟩
  · rintro S g hS ⟨a1, a2, a3, a4⟩
    exact ⟨a1, a2, a3, hS, Nat.zero_le _, ⟨none, 0, 0⟩, a4, OwnRow.nil _ _ _ _, fun a ha => (by cases ha), A2.nil, fun x hx => by cases hx⟩
  · rintro S pre x g ⟨itm, hit, rx, hvx⟩ ⟨a1, a2, a3, a4, a5, s, a6, a7, a8, a9, a10⟩
    refine box_to [.int .u64 x.1, .int .i64 x.2.1, .slice (iV x).a (iV x).len (iV x).cap, .string x.2.2.2.1] rfl fun g1 b1' e1' z1' => ⟨RKeep.ext e1', fun g2 st => ?_⟩
    have st2 : Stp h4.size g g2 := (Stp.ofExt e1' a1).trans st
    have hsz2 := st2.size
    have b2 := b1'.stp st
    have hpl : pre.length < its.length := (List.getElem?_eq_some_iff.1 hit).1
    refine ldA_blk (s := .sl) (i := 0) (x := s) (a6.stp st2) rfl ?_
    refine ldA_blk (s := .int .u64) (i := 0) (x := x.1) b2 rfl (ldA_blk (s := .int .i64) (i := 1) (x := x.2.1) b2 rfl (ldA_blk (s := .sl) (i := 2) (x := iV x) b2 rfl (ldA_blk (s := .str) (i := 3) (x := x.2.2.2.1) b2 rfl ?_)))
    have o2 := a7.stp st2
    refine app1 IT_ok (by decide) o2 (by omega) (by omega) (by decide) rfl x rfl fun s' g3 o3 u3 bl3 n3 => ⟨rfl, ?_⟩
    have hu3 := u3.1
    have hsb : ∀ a, s.a = some a → h.size ≠ a.block := fun a ha => by have := a7.above a ha; omega
    have b3 : Blk g3 h.size #[.slice s.a s.len s.cap] := (a6.stp st2).onlyS u3 hsb
    refine set_to (i := 0) b3 (by simp) fun g4 b4' o4 k4 z4' => ⟨(rkeep_own o2 u3).trans k4, ⟨by omega, ?_, ?_, by omega, ?_, s', ?_, ?_, ?_, ?_, ?_⟩, ?_⟩
    · have : Ext h g2 := st2.ext a2 (by omega)
      exact ((this.bel.trans (u3.bel this.size fun a ha => by have := a7.above a ha; omega)).ext).only_new o4 (Nat.le_refl _)
    · refine ((a3.stp st2).onlyS u3 fun a ha => ?_).only o4 (by omega)
      have := a7.above a ha
      have := b4.lt
      omega
    · rw [List.length_append, List.length_singleton]; omega
    · simpa using b4'
    · exact own_keep o3 fun a ha => o4.get _ (o3.lt a ha) (by have := o3.above a ha; omega)
    · intro a ha
      rcases Nw.of n3 a ha with ⟨c, hc, e⟩ | h
      · have := a8 c hc; omega
      · omega
    · have keep : ∀ y : StA IT, ∀ z, ItR g y z → (∀ a, (iV y).a = some a → h1.size ≤ a.block ∧ a.block < S) → ItR g4 y z := fun y z r hy => (r.stp st2).keep fun a ha => by
        obtain ⟨y1, y2⟩ := hy a ha
        rw [o4.get _ (by omega) (by omega), u3.2 _ (by omega) fun c hc e => by have := a8 c hc; omega]
      rw [List.length_append, List.length_singleton]
      exact A2.snoc (a9.imp fun y z hy _ r => keep y z r (a10 y hy)) hit (keep x itm rx hvx)
    · exact a10.snoc hvx
    · exact (((Kp.ofExt e1').trans (Kp.ofStp st)).trans (Kp.ofOnlyS u3 fun a ha => .inr (a8 a ha))).trans (Kp.ofOnly o4 (.inl (by omega)))
  · rintro S xs g hxs ⟨a1, a2, a3, a4, a5, s, a6, a7, a8, a9, a10⟩
    refine ldA_blk (s := .sl) (i := 0) (x := s) a6 rfl fun g2 st => hK s xs g2 (a7.row.stp st) ?_ (st.ext a2 (Nat.le_refl _))
    rw [hxs, List.take_length] at a9
    exact a9.imp fun _ _ _ _ r => r.stp st

/-- A row of items, the vectors of which lie in memory as it was. -/
def RX (h0 h : Hp) (s : Sl) (its : List It) : Prop := ∃ xs, IsRow (vsA IT) 4 h s xs ∧ A2 (ItR h0) xs its
theorem RX.ext {h0 h h' : Hp} {s : Sl} {its : List It} (r : RX h0 h s its) (x : Ext h h') : RX h0 h' s its := by
  obtain ⟨xs, r1, r2⟩ := r; exact ⟨xs, r1.ext x, r2⟩
theorem RX.len {h0 h : Hp} {s : Sl} {its : List It} (r : RX h0 h s its) : s.len = its.length := by
  obtain ⟨xs, r1, r2⟩ := r; rw [r1.len, r2.1]
theorem i_ld {h : Hp} {s : Sl} {xs : List (StA IT)} (r : IsRow (vsA IT) 4 h s xs) {i : Int} {k : Nat} {x : StA IT} (hi : i = k) (hx : xs[k]? = some x) {K : Addr → Prop} (hK : ∀ a, (∀ {K : Int → Prop}, K x.1 → ldA (.int .u64) h a K) → (∀ {K : Int → Prop}, K x.2.1 → ldA (.int .i64) h (a.add 1) K) → (∀ {K : Sl → Prop}, K (iV x) → ldA .sl h (a.add 2) K) → (∀ {K : ByteArray → Prop}, K x.2.2.2.1 → ldA .str h (a.add 3) K) →
      (∀ {K : Sl → Prop}, K (iV x) → ldA .sl h ((a.add 1).add 1) K) → (∀ {K : ByteArray → Prop}, K x.2.2.2.1 → ldA .str h ((a.add 1).add 2) K) → K a) : idxS s.a s.len i 4 K := by
  subst hi
  refine ld_row r (i := (k : Int)) (x := x) (by omega) (by simpa using hx) fun a0 _ hc => ?_
  generalize Addr.add a0 ((k : Int).toNat * 4) = a at hc ⊢
  have c2 : hcell h (Addr.add (Addr.add a 1) 1) = some (.slice (iV x).a (iV x).len (iV x).cap) := by rw [add_add]; exact hc.cell (j := 2) rfl
  have c3 : hcell h (Addr.add (Addr.add a 1) 2) = some (.string x.2.2.2.1) := by rw [add_add]; exact hc.cell (j := 3) rfl
  exact hK a (fun hk => ldA_row0 (s := .int .u64) hc rfl hk) (fun hk => ldA_row (s := .int .i64) (j := 1) hc rfl hk) (fun hk => ldA_row (s := .sl) (j := 2) hc rfl hk) (fun hk => ldA_row (s := .str) (j := 3) hc rfl hk) (fun hk => ⟨_, c2, hk⟩) (fun hk => ⟨_, c3, hk⟩)
abbrev iD (x : StA IT) : Int := x.1
theorem take_get {α : Type} {l : List α} {i : Nat} {x : α} (h : l[i]? = some x) : l.take (i + 1) = l.take i ++ [x] := by rw [List.take_add_one, h]; rfl
theorem r_Put {h0 h : Hp} {s : Sl} {its : List It} (r : RX h0 h s its) (hr : Ris (its.map (·.id))) (hl : (its.length + 1) * 56 ≤ 140737488355328) {x : StA IT} {it : It} (rx : ItR h0 x it) {K : Sl → Int → Hp → Prop}
    (h1 : ∀ t xs' h', it.id ∉ its.map (·.id) → OwnRow (vsA IT) 4 h.size h' t xs' → A2 (ItR h0) xs' (insAt its (rk (its.map (·.id)) it.id) it) → Ext h h' → K t 0 h') (h2 : ∀ h', it.id ∈ its.map (·.id) → Ext h h' → K s 4 h') : C_ref15_Put s x.1 x.2.1 (iV x) x.2.2.2.1 h K := by
  obtain ⟨xs, row, rel⟩ := r
  have hsl := row.len
  have hxl := rel.1
  have hids : xs.map (fun y : StA IT => y.1) = its.map (·.id) := rel.map fun _ _ r => r.id
  have hxid := rx.id
  obtain ⟨rkk, hrk⟩ : ∃ n, n = rk (its.map (·.id)) it.id := ⟨_, rfl⟩
  have hrkl : rkk ≤ xs.length := by have := rk_le (its.map (·.id)) it.id; rw [List.length_map] at this; omega
  refine F_ref15_Put_ok _ _ _ _ _ _ _ (push_to fun g1 b1 e1 z1 => let_to ?_)
  rw [Jn_eq]
  refine Lp.inv (fun st => ∃ (i : Nat) (out : List (StA IT)), st.1.2.2.1 = (i : Int) ∧ i ≤ xs.length ∧ Ext g1 st.2 ∧ OwnRow (vsA IT) 4 g1.size st.2 st.1.1 out ∧ out.length ≤ i + 1 ∧ ((st.1.2.1 = false ∧ i ≤ rkk ∧ out = xs.take i) ∨ (st.1.2.1 = true ∧ rkk < i ∧ (its.map (·.id))[rkk]? ≠ some it.id ∧ out = xs.take rkk ++ x :: (xs.take i).drop rkk))) (fun st => xs.length - st.1.2.2.1.toNat) ?_
    ⟨0, [], rfl, by omega, Ext.refl _, OwnRow.nil _ _ _ _, by simp, .inl ⟨rfl, by omega, rfl⟩⟩
  rintro ⟨⟨o, dn, i0, ⟨⟩⟩, g⟩ R ⟨i, out, hi, hin, xe, oo, hol, hst⟩ hR
  simp only at hi xe oo hst
  subst hi
  unfold L1_ref15_Put
  dsimp only
  have bx := b1.ext xe
  have box : ∀ {K : Int → Int → Sl → ByteArray → Prop}, K x.1 x.2.1 (iV x) x.2.2.2.1 → ldA (.int .u64) g ⟨h.size, 0, none⟩ fun a => ldA (.int .i64) g ⟨h.size, 1, none⟩ fun b => ldA .sl g ⟨h.size, 2, none⟩ fun c => ldA .str g ⟨h.size, 3, none⟩ fun d => K a b c d := fun {K} hk =>
    ldA_blk (s := .int .u64) (i := 0) (x := x.1) bx rfl (ldA_blk (s := .int .i64) (i := 1) (x := x.2.1) bx rfl (ldA_blk (s := .sl) (i := 2) (x := iV x) bx rfl (ldA_blk (s := .str) (i := 3) (x := x.2.2.2.1) bx rfl hk)))
  have hg1 := e1.size
  refine cnd_dec.2 ⟨fun hlt => ?_, fun hge => ?_⟩
  · have hx : xs[i]? = some (xs[i]'(by omega)) := List.getElem?_eq_getElem _
    generalize (xs[i]'(by omega)) = y at hx
    have hyid : (its.map (·.id))[i]? = some y.1 := by rw [← hids, List.getElem?_map, hx]; rfl
    have rowg := (row.ext e1).ext xe
    refine i_ld rowg rfl hx fun a la _ _ _ _ _ => la (ldA_blk (s := .int .u64) (i := 0) (x := x.1) bx rfl (cnd_beq.2 ⟨fun heq => ?_, fun hne => ?_⟩))
    · exact h2 g (by rw [← hxid, ← heq]; exact List.mem_of_getElem? hyid) (e1.trans xe)
    rw [Jn_eq, Jn_eq]
    have hne2 : (its.map (·.id))[i]? ≠ some it.id := by rw [hyid, ← hxid]; intro e; exact hne (Option.some.inj e)
    have J2 : ∀ (o2 : Sl) (d2 : Bool) (g2 : Hp) (out2 : List (StA IT)), Ext g1 g2 → OwnRow (vsA IT) 4 g1.size g2 o2 out2 → out2.length ≤ i + 1 → ((d2 = false ∧ i + 1 ≤ rkk ∧ out2 ++ [y] = xs.take (i + 1)) ∨ (d2 = true ∧ rkk < i + 1 ∧ (its.map (·.id))[rkk]? ≠ some it.id ∧ out2 ++ [y] = xs.take rkk ++ x :: (xs.take (i + 1)).drop rkk)) →
        J2_ref15_Put s (((o, dn, (i : Int), ()), g) : (Sl × Bool × Int × Unit) × Hp) R (o2, d2, ()) g2 := by
      intro o2 d2 g2 out2 xe2 oo2 hol2 hst2
      unfold J2_ref15_Put
      dsimp only
      refine i_ld ((row.ext e1).ext xe2) rfl hx fun a la lb lc ld _ _ => la (lb (lc (ld ?_)))
      refine app1 IT_ok (by decide) oo2 xe2.size (by omega) (by decide) rfl y rfl fun o3 g3 oo3 u3 bl3 n3 => let_to ?_
      rw [wrap_i64 (by omega) (by omega)]
      exact hR _ ⟨i + 1, out2 ++ [y], rfl, by omega, (xe2.bel.trans bl3).ext, oo3, by simp; omega, hst2⟩ (by show xs.length - ((i : Int) + 1).toNat < xs.length - (i : Int).toNat; omega)
    have hrkat : (it.id > y.1 ↔ i < rkk) := by rw [hrk]; exact rk_at hr hyid
    -- not put yet, and it does not come here
    have J3 : ∀ t : Bool, (dn = false → t = decide (it.id < y.1)) → (dn = true → t = false) → J3_ref15_Put ⟨h.size, 0, none⟩ (((o, dn, (i : Int), ()), g) : (Sl × Bool × Int × Unit) × Hp) (J2_ref15_Put s (((o, dn, (i : Int), ()), g) : (Sl × Bool × Int × Unit) × Hp) R) (t, ()) g := by
      intro t ht1 ht2
      unfold J3_ref15_Put
      dsimp only
      rcases hst with ⟨hd, hir, ho⟩ | ⟨hd, hir, hnk, ho⟩
      · have ht := ht1 hd
        subst ht
        refine cnd_dec.2 ⟨fun hlt2 => ?_, fun hnl => ?_⟩
        · have hie : i = rkk := by
            rcases Nat.lt_or_ge i rkk with h | h
            · have := hrkat.2 h; omega
            · omega
          refine box ?_
          refine app1 IT_ok (by decide) oo xe.size (by omega) (by decide) rfl x rfl fun o3 g3 oo3 u3 bl3 n3 => J2 o3 true g3 _ (xe.bel.trans bl3).ext oo3 ?_ (.inr ⟨rfl, by omega, by rw [← hie]; exact hne2, ?_⟩)
          · rw [ho]; simp; omega
          · rw [ho, ← hie, take_get hx, List.drop_append_of_le_length (by simp; omega), List.drop_eq_nil_of_le (by simp; omega)]
            simp
        · have hil : i < rkk := hrkat.1 (by have h5 : it.id = x.1 := hxid.symm; omega)
          have := J2 o dn g out xe oo (by rw [ho]; simp; omega) (.inl ⟨hd, by omega, by rw [ho, take_get hx]⟩)
          exact this
      · have ht := ht2 hd
        subst ht
        refine cnd_no rfl (J2 o dn g out xe oo ?_ (.inr ⟨hd, by omega, hnk, ?_⟩))
        · exact hol
        · rw [ho, take_get hx, List.drop_append_of_le_length (by simp; omega)]; simp
    refine cnd_not.2 (cnd_if (fun hd => J3 false (fun e => by rw [e] at hd; cases hd) fun _ => rfl) fun hd => ?_)
    refine ldA_blk (s := .int .u64) (i := 0) (x := x.1) bx rfl (i_ld rowg rfl hx fun a la _ _ _ _ _ => la (J3 _ (fun _ => by rw [hxid]) fun e => by rw [e] at hd; cases hd))
  · obtain rfl : i = xs.length := by omega
    unfold J1_ref15_Put
    dsimp only
    have ris_no : (its.map (·.id))[rkk]? ≠ some it.id → it.id ∉ its.map (·.id) := fun hn hm => hn (by rw [hrk]; exact (rk_mem hr).1 hm)
    have relI : A2 (ItR h0) (insAt xs rkk x) (insAt its (rk (its.map (·.id)) it.id) it) := by rw [← hrk]; exact rel.ins rx _
    rcases hst with ⟨hd, hir, ho⟩ | ⟨hd, hir, hnk, ho⟩
    · refine cnd_not.2 (cnd_no hd (box ?_))
      have hol3 : out.length = xs.length := by rw [ho, List.length_take]; omega
      refine app1 IT_ok (by decide) oo xe.size (by omega) (by decide) rfl x rfl fun o3 g3 oo3 u3 bl3 n3 => ?_
      have hie : rkk = xs.length := by omega
      have hno : it.id ∉ its.map (·.id) := ris_no (by rw [List.getElem?_eq_none (by rw [List.length_map]; omega)]; simp)
      refine h1 o3 _ g3 hno (oo3.weaken hg1) ?_ ((e1.trans xe).bel.trans (bl3.mono hg1)).ext
      rw [ho, List.take_length]
      have : insAt xs rkk x = xs ++ [x] := by unfold insAt; rw [hie, List.take_length, List.drop_length]
      rw [← this]; exact relI
    · refine cnd_not.2 (cnd_yes hd ?_)
      refine h1 o _ g (ris_no hnk) (oo.weaken hg1) ?_ (e1.trans xe)
      rw [ho, List.take_length]; exact relI
theorem filter_id : ∀ {xs : List (StA IT)} {k : Nat} {id : Int}, Ris (xs.map fun y : StA IT => y.1) → (xs.map fun y : StA IT => y.1)[k]? = some id → xs.filter (fun y => y.1 != id) = xs.take k ++ xs.drop (k + 1)
  | [], k, id, _, h => by simp at h
  | y :: xs, 0, id, hr, h => by
    simp at h; subst h
    obtain ⟨h1, h2⟩ := List.pairwise_cons.1 hr
    rw [List.filter_cons_of_neg (by simp)]
    simp only [List.take_zero, List.nil_append, List.drop_succ_cons, List.drop_zero]
    exact List.filter_eq_self.2 fun z hz => bne_iff_ne.2 fun e => by have h3 : iD y < iD z := h1 z.1 (List.mem_map.2 ⟨z, hz, rfl⟩); have h4 : iD z = iD y := e; omega
  | y :: xs, k + 1, id, hr, h => by
    obtain ⟨h1, h2⟩ := List.pairwise_cons.1 hr
    have h' : (xs.map fun y : StA IT => y.1)[k]? = some id := by simpa using h
    have h3 : iD y < id := h1 id (List.mem_of_getElem? h')
    rw [List.filter_cons_of_pos (p := fun y : StA IT => y.1 != id) (bne_iff_ne.2 fun e => by have h4 : iD y = id := e; omega), filter_id h2 h']
    simp
theorem r_Cut {h0 h : Hp} {s : Sl} {its : List It} (r : RX h0 h s its) (hr : Ris (its.map (·.id))) (hl : its.length * 56 ≤ 140737488355328) {id : Int} {K : Sl → Int → Hp → Prop}
    (h1 : ∀ t xs' h', id ∈ its.map (·.id) → OwnRow (vsA IT) 4 h.size h' t xs' → A2 (ItR h0) xs' (its.take (rk (its.map (·.id)) id) ++ its.drop (rk (its.map (·.id)) id + 1)) → Ext h h' → K t 0 h') (h2 : ∀ h', id ∉ its.map (·.id) → Ext h h' → K s 5 h') : C_ref15_Cut s id h K := by
  obtain ⟨xs, row, rel⟩ := r
  have hsl := row.len
  have hxl := rel.1
  have hids : xs.map (fun y : StA IT => y.1) = its.map (·.id) := rel.map fun _ _ r => r.id
  refine F_ref15_Cut_ok _ _ _ _ ?_
  unfold F_ref15_Cut
  rw [Jn_eq]
  refine Lp.inv (fun st => ∃ i : Nat, st.1.2.1 = (i : Int) ∧ i ≤ xs.length ∧ Ext h st.2 ∧ OwnRow (vsA IT) 4 h.size st.2 st.1.1 ((xs.take i).filter fun y => y.1 != id)) (fun st => xs.length - st.1.2.1.toNat) ?_ ⟨0, rfl, by omega, Ext.refl _, OwnRow.nil _ _ _ _⟩
  rintro ⟨⟨o, i0, ⟨⟩⟩, g⟩ R ⟨i, hi, hin, xe, oo⟩ hR
  simp only at hi xe oo
  subst hi
  unfold L1_ref15_Cut
  dsimp only
  refine cnd_dec.2 ⟨fun hlt => ?_, fun hge => ?_⟩
  · have hx : xs[i]? = some (xs[i]'(by omega)) := List.getElem?_eq_getElem _
    generalize (xs[i]'(by omega)) = y at hx
    have hm : xs.length - ((i : Int) + 1).toNat < xs.length - (i : Int).toNat := by omega
    have rg := row.ext xe
    have hfl := List.length_filter_le (fun y : StA IT => y.1 != id) (xs.take i)
    rw [List.length_take] at hfl
    refine i_ld rg rfl hx fun a la _ _ _ _ _ => la (cnd_bne.2 ⟨fun hne => ?_, fun heq => let_to ?_⟩)
    · refine i_ld rg rfl hx fun a la lb lc ld _ _ => la (lb (lc (ld ?_)))
      refine app1 IT_ok (by decide) oo xe.size (by omega) (by decide) rfl y rfl fun o3 g3 oo3 u3 bl3 n3 => let_to ?_
      rw [wrap_i64 (by omega) (by omega)]
      refine hR _ ⟨i + 1, rfl, by omega, (xe.bel.trans bl3).ext, ?_⟩ hm
      rw [take_get hx, List.filter_append, List.filter_cons_of_pos (by simpa using hne)]; exact oo3
    · rw [wrap_i64 (by omega) (by omega)]
      refine hR _ ⟨i + 1, rfl, by omega, xe, ?_⟩ hm
      rw [take_get hx, List.filter_append, List.filter_cons_of_neg (by simpa using heq)]
      simpa using oo
  · obtain rfl : i = xs.length := by omega
    rw [List.take_length] at oo
    unfold J1_ref15_Cut
    dsimp only
    have hol := oo.row.len
    by_cases hm : id ∈ its.map (·.id)
    · have hk := (rk_mem hr).1 hm
      have hkl := (List.getElem?_eq_some_iff.1 hk).1
      rw [List.length_map] at hkl
      have hf := filter_id (xs := xs) (k := rk (its.map (·.id)) id) (id := id) (by rw [hids]; exact hr) (by rw [hids]; exact hk)
      rw [hf] at oo hol
      have hlen : (xs.take (rk (its.map (·.id)) id) ++ xs.drop (rk (its.map (·.id)) id + 1)).length = xs.length - 1 := by rw [List.length_append, List.length_take, List.length_drop]; omega
      refine cnd_no (beq_eq_false_iff_ne.2 (by omega)) (h1 o _ g hm oo (rel.cut _) xe)
    · have hf : xs.filter (fun y => y.1 != id) = xs := List.filter_eq_self.2 fun y hy => by
        simp only [bne_iff_ne]
        intro e
        exact hm (by rw [← hids, ← e]; exact List.mem_map.2 ⟨y, hy, rfl⟩)
      rw [hf] at hol
      exact cnd_yes (by rw [hol, hsl]; simp) (h2 g hm xe)
theorem r_Get {h0 h : Hp} {s : Sl} {its : List It} (r : RX h0 h s its) (hl : its.length ≤ 4611686018427387904) {id : Int} {K : Int → Sl → ByteArray → Bool → Hp → Prop}
    (h1 : ∀ (x : StA IT) it h', it ∈ its → it.id = id → ItR h0 x it → Ext h h' → K x.2.1 (iV x) x.2.2.2.1 true h') (h2 : ∀ h', id ∉ its.map (·.id) → Ext h h' → K 0 ⟨none, 0, 0⟩ (ByteArray.mk #[]) false h') : C_ref15_Get s id h K := by
  obtain ⟨xs, row, rel⟩ := r
  have hsl := row.len
  have hxl := rel.1
  have hids : xs.map (fun y : StA IT => y.1) = its.map (·.id) := rel.map fun _ _ r => r.id
  refine F_ref15_Get_ok _ _ _ _ (push_to fun g1 b1 e1 z1 => let_to ?_)
  refine Lp.inv (fun st => st.2 = g1 ∧ ∃ i : Nat, st.1.1 = (i : Int) ∧ i ≤ xs.length ∧ ∀ (j : Nat) y, j < i → xs[j]? = some y → y.1 ≠ id) (fun st => xs.length - st.1.1.toNat) ?_ ⟨rfl, 0, rfl, by omega, fun j y hj => by omega⟩
  rintro ⟨⟨i0, ⟨⟩⟩, g⟩ R ⟨hg, i, hi, hin, hno⟩ hR
  simp only at hg hi
  subst hg; subst hi
  unfold L1_ref15_Get
  dsimp only
  refine cnd_dec.2 ⟨fun hlt => ?_, fun hge => ?_⟩
  · have hx : xs[i]? = some (xs[i]'(by omega)) := List.getElem?_eq_getElem _
    have hit : its[i]? = some (its[i]'(by omega)) := List.getElem?_eq_getElem _
    generalize (xs[i]'(by omega)) = y at hx
    generalize (its[i]'(by omega)) = it at hit
    have rg := row.ext e1
    refine i_ld rg rfl hx fun a la _ _ _ _ _ => la (cnd_beq.2 ⟨fun heq => ?_, fun hne => let_to ?_⟩)
    · refine i_ld rg rfl hx fun a _ lb _ _ lc ld => lb (lc (ld ?_))
      refine set_to (i := 0) b1 (by simp) fun h9 b9 o9 _ z9 => set_to (i := 1) b9 (by simp) fun h10 b10 o10 _ z10 => set_to (i := 2) b10 (by simp) fun h11 b11 o11 _ z11 => ?_
      refine ldA_blk (s := .int .i64) (i := 0) (x := y.2.1) b11 rfl (ldA_blk (s := .sl) (i := 1) (x := iV y) b11 rfl (ldA_blk (s := .str) (i := 2) (x := y.2.2.2.1) b11 rfl ?_))
      have ri := rel.2 i y it hx hit
      exact h1 y it h11 (List.mem_of_getElem? hit) (ri.id ▸ heq) ri (((e1.only_new o9 (Nat.le_refl _)).only_new o10 (Nat.le_refl _)).only_new o11 (Nat.le_refl _))
    · rw [wrap_i64 (by omega) (by omega)]
      refine hR _ ⟨rfl, i + 1, rfl, by omega, fun j z hj hz => ?_⟩ (by show xs.length - ((i : Int) + 1).toNat < xs.length - (i : Int).toNat; omega)
      rcases Nat.lt_or_ge j i with h | h
      · exact hno j z h hz
      · obtain rfl : j = i := by omega
        rw [hx] at hz; cases hz; exact hne
  · obtain rfl : i = xs.length := by omega
    refine set_to (i := 0) b1 (by simp) fun h9 b9 o9 _ z9 => set_to (i := 1) b9 (by simp) fun h10 b10 o10 _ z10 => set_to (i := 2) b10 (by simp) fun h11 b11 o11 _ z11 => ?_
    refine ldA_blk (s := .int .i64) (i := 0) (x := 0) b11 rfl (ldA_blk (s := .sl) (i := 1) (x := ⟨none, 0, 0⟩) b11 rfl (ldA_blk (s := .str) (i := 2) (x := ByteArray.mk #[]) b11 rfl ?_))
    refine h2 h11 (fun hm => ?_) (((e1.only_new o9 (Nat.le_refl _)).only_new o10 (Nat.le_refl _)).only_new o11 (Nat.le_refl _))
    rw [← hids] at hm
    obtain ⟨y, hy, e⟩ := List.mem_map.1 hm
    obtain ⟨j, hj⟩ := List.getElem?_of_mem hy
    exact hno j y (List.getElem?_eq_some_iff.1 hj).1 hj e
/-- Same items. -/
theorem it_Same {h : Hp} {x y : StA IT} {it : It} (rx : ItR h x it) (ry : ItR h y it) {K : Bool → Hp → Prop} (hK : ∀ h', Ext h h' → K true h') : C_ref05_Same x.2.1 (iV x) x.2.2.2.1 y.2.1 (iV y) y.2.2.2.1 h K := by
  have hok := rx.ok
  unfold Ob.ok at hok
  have e1 : x.2.1 = y.2.1 := rx.tag.trans ry.tag.symm
  rw [e1]
  exact r_Same rx.vec ry.vec (by omega) (by rw [rx.str, ry.str]) hK
theorem r_Sames {h : Hp} {s t : Sl} {xs ys : List (StA IT)} {its : List It} (rs : IsRow (vsA IT) 4 h s xs) (rt : IsRow (vsA IT) 4 h t ys) (ax : A2 (ItR h) xs its) (ay : A2 (ItR h) ys its) (hl : its.length ≤ 4611686018427387904) {K : Bool → Hp → Prop} (hK : ∀ h', Ext h h' → K true h') : C_ref15_Same s t h K := by
  have h1 := rs.len
  have h2 := rt.len
  have h3 := ax.1
  have h4 := ay.1
  refine F_ref15_Same_ok _ _ _ _ (cnd_bne.2 ⟨fun hne => (hne (by omega)).elim, fun _ => ?_⟩)
  refine Lp.inv (fun st => Ext h st.2 ∧ ∃ i : Nat, st.1.1 = (i : Int) ∧ i ≤ its.length) (fun st => its.length - st.1.1.toNat) ?_ ⟨Ext.refl _, 0, rfl, by omega⟩
  rintro ⟨⟨i0, ⟨⟩⟩, g⟩ R ⟨xe, i, hi, hin⟩ hR
  simp only at xe hi
  subst hi
  unfold L1_ref15_Same
  dsimp only
  refine cnd_dec.2 ⟨fun hlt => ?_, fun hge => hK g xe⟩
  have hx : xs[i]? = some (xs[i]'(by omega)) := List.getElem?_eq_getElem _
  have hy : ys[i]? = some (ys[i]'(by omega)) := List.getElem?_eq_getElem _
  have hit : its[i]? = some (its[i]'(by omega)) := List.getElem?_eq_getElem _
  generalize (xs[i]'(by omega)) = x at hx
  generalize (ys[i]'(by omega)) = y at hy
  generalize (its[i]'(by omega)) = it at hit
  have rx := (ax.2 i x it hx hit).ext xe
  have ry := (ay.2 i y it hy hit).ext xe
  have rsg := rs.ext xe
  have rtg := rt.ext xe
  refine i_ld rsg rfl hx fun a la _ _ _ _ _ => la (i_ld rtg rfl hy fun b lb _ _ _ _ _ => lb (cnd_bne.2 ⟨fun hne => (hne (rx.id.trans ry.id.symm)).elim, fun _ => ?_⟩))
  refine i_ld rsg rfl hx fun a _ l1 _ _ l2 l3 => l1 (l2 (l3 (i_ld rtg rfl hy fun b _ m1 _ _ m2 m3 => m1 (m2 (m3 (it_Same rx ry fun g2 e2 => cnd_not.2 (cnd_yes rfl (let_to ?_))))))))
  rw [wrap_i64 (by omega) (by omega)]
  exact hR _ ⟨xe.trans e2, i + 1, rfl, by omega⟩ (by show its.length - ((i : Int) + 1).toNat < its.length - (i : Int).toNat; omega)
end Go.Proofs.YthnkmmnipihkeaaF
