/- Chapter 15: deeds, and going through. No condition. -/
import Derived.Test.YthnkmmnipihkeaaStoreLaw
namespace Go.Proofs.YthnkmmnipihkeaaF
open Go Go.Proofs.YthnkmmnipihkeaaK
set_option linter.unusedSimpArgs false
set_option linter.unusedVariables false

abbrev DT : List At := [.bool, .int .u64, .int .i64, .sl, .str]
theorem DT_ok : Enc (vsA DT) 5 := encA rfl
abbrev dI (x : StA DT) : StA IT := x.2
theorem d_ld {h : Hp} {s : Sl} {xs : List (StA DT)} (r : IsRow (vsA DT) 5 h s xs) {i : Int} {k : Nat} {x : StA DT} (hi : i = k) (hx : xs[k]? = some x) {K : Addr → Prop} (hK : ∀ a, (∀ {K : Bool → Prop}, K x.1 → ldA .bool h a K) → (∀ {K : Int → Prop}, K (dI x).1 → ldA (.int .u64) h (a.add 1) K) →
      (∀ {K : Int → Prop}, K (dI x).2.1 → ldA (.int .i64) h ((a.add 1).add 1) K) → (∀ {K : Sl → Prop}, K (iV (dI x)) → ldA .sl h ((a.add 1).add 2) K) → (∀ {K : ByteArray → Prop}, K (dI x).2.2.2.1 → ldA .str h ((a.add 1).add 3) K) → K a) : idxS s.a s.len i 5 K := by
  subst hi
  refine ld_row r (i := (k : Int)) (x := x) (by omega) (by simpa using hx) fun a0 _ hc => ?_
  generalize Addr.add a0 ((k : Int).toNat * 5) = a at hc ⊢
  have c1 : hcell h (Addr.add (Addr.add a 1) 1) = some (.int .i64 (dI x).2.1) := by rw [add_add]; exact hc.cell (j := 2) rfl
  have c2 : hcell h (Addr.add (Addr.add a 1) 2) = some (.slice (iV (dI x)).a (iV (dI x)).len (iV (dI x)).cap) := by rw [add_add]; exact hc.cell (j := 3) rfl
  have c3 : hcell h (Addr.add (Addr.add a 1) 3) = some (.string (dI x).2.2.2.1) := by rw [add_add]; exact hc.cell (j := 4) rfl
  exact hK a (fun hk => ldA_row0 (s := .bool) hc rfl hk) (fun hk => ldA_row (s := .int .u64) (j := 1) hc rfl hk) (fun hk => ⟨_, c1, hk⟩) (fun hk => ⟨_, c2, hk⟩) (fun hk => ⟨_, c3, hk⟩)
theorem its_uniq {its : List It} (hr : Ris (its.map (·.id))) {a b : It} (ha : a ∈ its) (hb : b ∈ its) (h : a.id = b.id) : a = b := by
  obtain ⟨i, hi⟩ := List.getElem?_of_mem ha
  obtain ⟨j, hj⟩ := List.getElem?_of_mem hb
  have h1 : (its.map (·.id))[i]? = some a.id := by rw [List.getElem?_map, hi]; rfl
  have h2 : (its.map (·.id))[j]? = some a.id := by rw [List.getElem?_map, hj, h]; rfl
  have := hr.inj h1 h2
  subst this
  rw [hi] at hj; exact Option.some.inj hj
/-- The store and the document's row side by side. -/
structure Side (h0 h : Hp) (p : Nat) (S : SP) (r : Sl) (its : List It) : Prop where
  x : Ext h0 h
  q : SW h p S its
  f : ∀ b, fp p S b → h0.size ≤ b
  rx : RX h0 h r its
  rs : ∀ a, r.a = some a → ¬ fp p S a.block ∧ a.block < h.size
theorem Side.ext {h0 h h' : Hp} {p : Nat} {S : SP} {r : Sl} {its : List It} (k : Side h0 h p S r its) (e : Ext h h') : Side h0 h' p S r its :=
  ⟨k.x.trans e, k.q.ext e, k.f, k.rx.ext e, fun a ha => ⟨(k.rs a ha).1, by have := (k.rs a ha).2; have := e.size; omega⟩⟩
theorem RX.grow {h0 h h' : Hp} {p : Nat} {S S' : SP} {r : Sl} {its : List It} (rx : RX h0 h r its) (rs : ∀ a, r.a = some a → ¬ fp p S a.block ∧ a.block < h.size) (g : SGrow p S S' h h') : RX h0 h' r its := by
  obtain ⟨xs, r1, r2⟩ := rx
  exact ⟨xs, row_keep r1 fun a ha => g.get _ (rs a ha).2 (rs a ha).1, r2⟩
theorem rs_grow {h h' : Hp} {p : Nat} {S S' : SP} {r : Sl} (rs : ∀ a, r.a = some a → ¬ fp p S a.block ∧ a.block < h.size) (g : SGrow p S S' h h') : ∀ a, r.a = some a → ¬ fp p S' a.block ∧ a.block < h'.size := fun a ha => by
  obtain ⟨h1, h2⟩ := rs a ha
  refine ⟨fun hh => ?_, by have := g.size; omega⟩
  rcases g.nw _ hh with h | h
  · exact h1 h
  · omega
/-- Put on both sides. -/
theorem both_Put {h0 h : Hp} {p : Nat} {S : SP} {r : Sl} {its : List It} (k : Side h0 h p S r its) {x : StA IT} {it : It} (rx : ItR h0 x it) (hl : (S.slots.length + 1) * 56 ≤ 140737488355328) {K : Int → Hp → Prop}
    (hK : ∀ (e : Int) g, Ext h0 g → h.size ≤ g.size → (∀ b, b < h.size → ¬ fp p S b → g[b]? = h[b]?) → (∀ {K2 : Sl → Int → Hp → Prop}, (∀ r' S' its' g2, Side h0 g2 p S' r' its' → S'.slots.length ≤ S.slots.length + 1 → Ext g g2 → (∀ b, fp p S' b → fp p S b ∨ h.size ≤ b) → (∀ a, r'.a = some a → r.a = some a ∨ g.size ≤ a.block) → K2 r' e g2) → C_ref15_Put r x.1 x.2.1 (iV x) x.2.2.2.1 g K2) → K e g) : C_store_Store_Put (some ⟨p, 0, none⟩) x.1 x.2.1 (iV x) x.2.2.2.1 h K := by
  have hq := k.q
  have hris := hq.ris
  have hcnt := hq.cnt
  have hlen := hq.len
  have hit : it = ⟨x.1, x.2.1, it.ob.vec, x.2.2.2.1⟩ := by
    obtain ⟨a, b, c, d⟩ := it
    have h1 := rx.id; have h2 := rx.tag; have h3 := rx.str
    simp only at h1 h2 h3 ⊢
    rw [h1, h2, h3]
  have hid := rx.id
  refine s_Put hq hl (rx.vec.ext k.x) rx.ok (fun S' g hn q' sg hsl => hK 0 g (sg.ext k.x k.f) sg.size sg.get fun {K2} hk2 => ?_) fun g hm e => hK 4 g (k.x.trans e) e.size (fun b hb _ => e.get b hb) fun {K2} hk2 => ?_
  · rw [← hit] at q'
    refine r_Put (k.rx.grow k.rs sg) hris (by omega) rx (fun t xs' g2 _ ot rel e2 => ?_) fun g2 hm _ => (hn (hid ▸ hm)).elim
    have q2 := q'.ext e2
    rw [hid] at q2
    refine hk2 t S' _ g2 ⟨(sg.ext k.x k.f).trans e2, q2, sg.own k.f k.x.size, ⟨xs', ot.row, rel⟩, fun a ha => ⟨fun hh => ?_, ot.lt a ha⟩⟩ hsl e2 sg.nw fun a ha => .inr (ot.above a ha)
    have := q'.lt _ hh
    have := ot.above a ha
    omega
  · refine r_Put (k.rx.ext e) hris (by omega) rx (fun t xs' g2 hn _ _ _ => (hn (hid ▸ hm)).elim) fun g2 _ e2 => hk2 r S its g2 ((k.ext e).ext e2) (by omega) e2 (fun b hb => .inl hb) fun a ha => .inl ha
/-- Cut on both sides. -/
theorem both_Cut {h0 h : Hp} {p : Nat} {S : SP} {r : Sl} {its : List It} (k : Side h0 h p S r its) {id : Int} (hl : S.slots.length * 56 ≤ 140737488355328) {K : Int → Hp → Prop}
    (hK : ∀ (e : Int) g, (∀ {K2 : Sl → Int → Hp → Prop}, (∀ r' S' its' g2, Side h0 g2 p S' r' its' → S'.slots.length ≤ S.slots.length → K2 r' e g2) → C_ref15_Cut r id g K2) → K e g) : C_store_Store_Cut (some ⟨p, 0, none⟩) id h K := by
  have hq := k.q
  have hris := hq.ris
  have hcnt := hq.cnt
  have hlen := hq.len
  refine s_Cut hq (by omega) (fun S' g hm q' sg hsl => hK 0 g fun {K2} hk2 => ?_) fun g hn e => hK 5 g fun {K2} hk2 => ?_
  · refine r_Cut (k.rx.grow k.rs sg) hris (by omega) (fun t xs' g2 _ ot rel e2 => ?_) fun g2 hn _ => (hn hm).elim
    refine hk2 t S' _ g2 ⟨(sg.ext k.x k.f).trans e2, q'.ext e2, sg.own k.f k.x.size, ⟨xs', ot.row, rel⟩, fun a ha => ⟨fun hh => ?_, ot.lt a ha⟩⟩ hsl
    have := q'.lt _ hh
    have := ot.above a ha
    omega
  · refine r_Cut (k.rx.ext e) hris (by omega) (fun t xs' g2 hm _ _ _ => (hn hm).elim) fun g2 _ e2 => hk2 r S its g2 ((k.ext e).ext e2) (by omega)
theorem storeDoes_ok {h : Hp} {s : Sl} {ds : List (StA DT)} {dits : List It} (row : IsRow (vsA DT) 5 h s ds) (rel : A2 (fun x it => ItR h (dI x) it) ds dits) (hl : ds.length * 64 ≤ 140737488355328) : C_law15_StoreDoes s h (Yes h) := by
  have hsl := row.len
  have hdl := rel.1
  refine F_law15_StoreDoes_ok _ _ _ (s_New fun p S h2 q hS hf e2 => ?_)
  refine Lp.inv (fun st => ∃ (i : Nat) (S : SP) (its : List It), st.1.2.1 = (i : Int) ∧ i ≤ ds.length ∧ Side h st.2 p S st.1.1 its ∧ S.slots.length ≤ i) (fun st => ds.length - st.1.2.1.toNat) ?_
    ⟨0, S, [], rfl, by omega, ⟨e2, q, hf, ⟨[], IsRow.nil _ _ _ _, A2.nil⟩, fun a ha => (by cases ha)⟩, by rw [hS]; exact Nat.le_refl _⟩
  rintro ⟨⟨r, i0, ⟨⟩⟩, g⟩ R ⟨i, S1, its, hi, hin, sd, hsn⟩ hR
  simp only at hi sd
  subst hi
  unfold L1_law15_StoreDoes
  dsimp only
  refine cnd_dec.2 ⟨fun hlt => ?_, fun hge => c_lives fun g2 e2 => ⟨rfl, sd.x.trans e2⟩⟩
  have hx : ds[i]? = some (ds[i]'(by omega)) := List.getElem?_eq_getElem _
  have hit : dits[i]? = some (dits[i]'(by omega)) := List.getElem?_eq_getElem _
  generalize (ds[i]'(by omega)) = x at hx
  generalize (dits[i]'(by omega)) = it at hit
  have rx := rel.2 i x it hx hit
  have rowg := row.ext sd.x
  refine d_ld rowg rfl hx fun a _ l1 _ _ _ => l1 ?_
  rw [Jn_eq]
  have J : ∀ (r' : Sl) (S' : SP) (its' : List It) (g2 : Hp) (e : Int), Side h g2 p S' r' its' → S'.slots.length ≤ i + 1 → J1_law15_StoreDoes (Yes h) (some ⟨p, 0, none⟩) (((r, (i : Int), ()), g) : (Sl × Int × Unit) × Hp) R (dI x).1 (r', e, e, ()) g2 := by
    intro r' S' its' g2 e k hs'
    have hcnt := k.q.cnt
    have hlen := k.q.len
    have hris := k.q.ris
    have hR2 : ∀ g3, Ext g2 g3 → Let (IntKind.wrap .i64 ((i : Int) + 1) : Int) fun t41 => R ((r', t41, ()), g3) := fun g3 e3 => by
      refine let_to ?_
      rw [wrap_i64 (by omega) (by omega)]
      exact hR _ ⟨i + 1, S', its', rfl, by omega, k.ext e3, hs'⟩ (by show ds.length - ((i : Int) + 1).toNat < ds.length - (i : Int).toNat; omega)
    unfold J1_law15_StoreDoes
    dsimp only
    -- the end of it, the things being told alike
    have tail : ∀ (ta : Int) (va : Sl) (sa : ByteArray) (tb : Int) (vb : Sl) (sb : ByteArray) (L : List Int) (b : Bool) (g3 : Hp), Ext g2 g3 → ta = tb → bts sa = bts sb → V32 g3 va L → V32 g3 vb L → L.length ≤ 4611686018427387904 → b = decide ((dI x).1 ∈ its'.map (·.id)) →
        (∀ w1 w2 : Nat, Blk g3 w1 #[.int .i64 ta, .slice va.a va.len va.cap, .string sa] → Blk g3 w2 #[.int .i64 tb, .slice vb.a vb.len vb.cap, .string sb] →
        C_store_Store_Has (some ⟨p, 0, none⟩) (dI x).1 g3 fun (t25 : Bool) (h26 : Hp) => cnd (!(t25 == b)) (Yes h false h26) (
          ldA (.int .i64) h26 ⟨w1, 0, none⟩ fun (t27 : Int) => ldA .sl h26 ⟨w1, 1, none⟩ fun (t28 : Sl) => ldA .str h26 ⟨w1, 2, none⟩ fun (t29 : ByteArray) =>
          ldA (.int .i64) h26 ⟨w2, 0, none⟩ fun (t30 : Int) => ldA .sl h26 ⟨w2, 1, none⟩ fun (t31 : Sl) => ldA .str h26 ⟨w2, 2, none⟩ fun (t32 : ByteArray) =>
          C_ref05_Same t27 t28 t29 t30 t31 t32 h26 fun (t33 : Bool) (h34 : Hp) => cnd (!t33) (Yes h false h34) (
          C_store_Store_Len (some ⟨p, 0, none⟩) h34 fun (t35 : Int) (h36 : Hp) => cnd (t35 != (r'.len : Int)) (Yes h false h36) (
          C_store_Store_Items (some ⟨p, 0, none⟩) h36 fun (t37 : Sl) (h38 : Hp) => C_ref15_Same t37 ⟨r'.a, r'.len, r'.cap⟩ h38 fun (t39 : Bool) (h40 : Hp) => cnd (!t39) (Yes h false h40) (
          Let (IntKind.wrap .i64 ((i : Int) + 1) : Int) fun (t41 : Int) => R ((⟨r'.a, r'.len, r'.cap⟩, t41, ()), h40)))))) := by
      intro ta va sa tb vb sb L b g3 e3 hab hs rva rvb hL hb w1 w2 b1 b2
      subst hb
      subst hab
      have k3 := k.ext e3
      refine s_Has k3.q (by omega) fun g4 e4 => cnd_not.2 (cnd_yes (by simp) (obj3 (b1.ext e4) (obj3 (b2.ext e4) ?_)))
      refine r_Same (rva.ext e4) (rvb.ext e4) hL hs fun g5 e5 => cnd_not.2 (cnd_yes rfl ?_)
      have k5 := (k3.ext e4).ext e5
      refine s_Len k5.q (cnd_bne.2 ⟨fun hne => (hne (by rw [k.rx.len])).elim, fun _ => ?_⟩)
      refine s_Items (by omega) (all_some (by omega)) (fun w e => k5.q.ext e) fun t ys g6 rt ay e6 => ?_
      have k6 := k5.ext e6
      obtain ⟨xs, rxs, axs⟩ := k6.rx
      refine r_Sames rt rxs ay (axs.imp fun _ _ _ _ r => r.ext k6.x) (by omega) fun g7 e7 => cnd_not.2 (cnd_yes rfl ?_)
      exact hR2 g7 ((((e3.trans e4).trans e5).trans e6).trans e7)
    refine s_Get k.q (by omega) (fun ia v g3 hm hid ov e3 => ?_) fun g3 hn e3 => ?_
    · refine push_to fun g4 b4 e4 z4 => let_to (set_to (i := 0) b4 (by simp) fun g5 b5 o5 _ z5 => set_to (i := 1) b5 (by simp) fun g6 b6 o6 _ z6 => set_to (i := 2) b6 (by simp) fun g7 b7 o7 _ z7 => ?_)
      have e7 : Ext g3 g7 := ((e4.only_new o5 (Nat.le_refl _)).only_new o6 (Nat.le_refl _)).only_new o7 (Nat.le_refl _)
      have k7 := (k.ext e3).ext e7
      refine r_Get k7.rx (by omega) (fun y ib g8 hmb hidb ry e8 => ?_) fun g8 hn _ => (hn (hid ▸ List.mem_map.2 ⟨ia, hm, rfl⟩)).elim
      refine push_to fun g9 c9 e9 y9 => let_to (set_to (i := 0) c9 (by simp) fun g10 c10 p10 _ y10 => set_to (i := 1) c10 (by simp) fun g11 c11 p11 _ y11 => set_to (i := 2) c11 (by simp) fun g12 c12 p12 _ y12 => ?_)
      have e12 : Ext g8 g12 := ((e9.only_new p10 (Nat.le_refl _)).only_new p11 (Nat.le_refl _)).only_new p12 (Nat.le_refl _)
      have hab : ib = ia := its_uniq hris hmb hm (hidb.trans hid.symm)
      subst hab
      have x12 : Ext g2 g12 := ((e3.trans e7).trans e8).trans e12
      refine cnd_bne.2 ⟨fun hne => (hne rfl).elim, fun _ => cnd_not.2 (cnd_yes rfl ?_)⟩
      have hok := ry.ok
      unfold Ob.ok at hok
      exact tail ib.ob.tag v ib.ob.str y.2.1 (iV y) y.2.2.2.1 ib.ob.vec true g12 x12 ry.tag.symm (by rw [ry.str]) (((ov.row.ext e7).ext e8).ext e12) (ry.vec.ext (k.x.trans x12)) (by omega) (by rw [decide_eq_true (hid ▸ List.mem_map.2 ⟨ib, hm, rfl⟩)]) g3.size g8.size
        (((show Blk g7 g3.size #[.int .i64 ib.ob.tag, .slice v.a v.len v.cap, .string ib.ob.str] by simpa using b7).ext e8).ext e12) (by simpa using c12)
    · refine push_to fun g4 b4 e4 z4 => let_to (set_to (i := 0) b4 (by simp) fun g5 b5 o5 _ z5 => set_to (i := 1) b5 (by simp) fun g6 b6 o6 _ z6 => set_to (i := 2) b6 (by simp) fun g7 b7 o7 _ z7 => ?_)
      have e7 : Ext g3 g7 := ((e4.only_new o5 (Nat.le_refl _)).only_new o6 (Nat.le_refl _)).only_new o7 (Nat.le_refl _)
      have k7 := (k.ext e3).ext e7
      refine r_Get k7.rx (by omega) (fun y ib g8 hmb hidb ry e8 => (hn (hidb ▸ List.mem_map.2 ⟨ib, hmb, rfl⟩)).elim) fun g8 _ e8 => ?_
      refine push_to fun g9 c9 e9 y9 => let_to (set_to (i := 0) c9 (by simp) fun g10 c10 p10 _ y10 => set_to (i := 1) c10 (by simp) fun g11 c11 p11 _ y11 => set_to (i := 2) c11 (by simp) fun g12 c12 p12 _ y12 => ?_)
      have e12 : Ext g8 g12 := ((e9.only_new p10 (Nat.le_refl _)).only_new p11 (Nat.le_refl _)).only_new p12 (Nat.le_refl _)
      have x12 : Ext g2 g12 := ((e3.trans e7).trans e8).trans e12
      refine cnd_bne.2 ⟨fun hne => (hne rfl).elim, fun _ => cnd_not.2 (cnd_yes rfl ?_)⟩
      exact tail 0 ⟨none, 0, 0⟩ (ByteArray.mk #[]) 0 ⟨none, 0, 0⟩ (ByteArray.mk #[]) [] false g12 x12 rfl rfl (IsRow.nil _ _ _ _) (IsRow.nil _ _ _ _) (by simp) (by rw [decide_eq_false hn]) g3.size g8.size
        (((show Blk g7 g3.size #[.int .i64 0, .slice none 0 0, .string (ByteArray.mk #[])] by simpa using b7).ext e8).ext e12) (by simpa using c12)
  refine d_ld rowg rfl hx fun a l0 _ _ _ _ => l0 (cnd_if (fun hc => ?_) fun hc => ?_)
  · exact both_Cut sd (by omega) fun e g2 hc2 => hc2 fun r' S' its' g3 k hs => J r' S' its' g3 e k (by omega)
  · refine d_ld rowg rfl hx fun a _ l1 l2 l3 l4 => l1 (l2 (l3 (l4 ?_)))
    refine both_Put sd rx (by omega) fun e g2 x2 _ _ hc2 => d_ld (row.ext x2) rfl hx fun a _ l1 l2 l3 l4 => l1 (l2 (l3 (l4 ?_)))
    exact hc2 fun r' S' its' g3 k hs _ _ _ => J r' S' its' g3 e k (by omega)
end Go.Proofs.YthnkmmnipihkeaaF
