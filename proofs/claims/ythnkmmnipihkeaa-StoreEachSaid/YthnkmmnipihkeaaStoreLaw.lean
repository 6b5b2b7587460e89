/- Chapter 15: the laws. No condition. -/
import Derived.Test.YthnkmmnipihkeaaStoreS
namespace Go.Proofs.YthnkmmnipihkeaaF
open Go Go.Proofs.YthnkmmnipihkeaaK
set_option linter.unusedSimpArgs false
set_option linter.unusedVariables false

abbrev Yes (h : Hp) : Bool → Hp → Prop := fun b h' => b = true ∧ Ext h h'
theorem obj4 {h : Hp} {b : Nat} {id tag : Int} {s : Sl} {u : ByteArray} (r : Blk h b #[.int .u64 id, .int .i64 tag, .slice s.a s.len s.cap, .string u]) {K : Int → Int → Sl → ByteArray → Prop} (hk : K id tag s u) : ldA (.int .u64) h ⟨b, 0, none⟩ fun a => ldA (.int .i64) h ⟨b, 1, none⟩ fun c => ldA .sl h ⟨b, 2, none⟩ fun d => ldA .str h ⟨b, 3, none⟩ fun e => K a c d e :=
  ldA_blk (s := .int .u64) (i := 0) (x := id) r rfl (ldA_blk (s := .int .i64) (i := 1) (x := tag) r rfl (ldA_blk (s := .sl) (i := 2) (x := s) r rfl (ldA_blk (s := .str) (i := 3) (x := u) r rfl hk)))
theorem obj3 {h : Hp} {b : Nat} {tag : Int} {s : Sl} {u : ByteArray} (r : Blk h b #[.int .i64 tag, .slice s.a s.len s.cap, .string u]) {K : Int → Sl → ByteArray → Prop} (hk : K tag s u) : ldA (.int .i64) h ⟨b, 0, none⟩ fun a => ldA .sl h ⟨b, 1, none⟩ fun c => ldA .str h ⟨b, 2, none⟩ fun d => K a c d :=
  ldA_blk (s := .int .i64) (i := 0) (x := tag) r rfl (ldA_blk (s := .sl) (i := 1) (x := s) r rfl (ldA_blk (s := .str) (i := 2) (x := u) r rfl hk))
theorem ids_nil {id : Int} : id ∉ ([] : List It).map (·.id) := by simp
theorem SGrow.ext {p : Nat} {S S' : SP} {h0 h h' : Hp} (g : SGrow p S S' h h') (x : Ext h0 h) (hf : ∀ b, fp p S b → h0.size ≤ b) : Ext h0 h' :=
  ⟨Nat.le_trans x.size g.size, fun b hb => by rw [g.get b (by have := x.size; omega) fun h => by have := hf b h; omega, x.get b hb]⟩
theorem SGrow.own {p : Nat} {S S' : SP} {h0 h h' : Hp} (g : SGrow p S S' h h') (hf2 : ∀ b, fp p S b → h0.size ≤ b) (hs : h0.size ≤ h.size) : ∀ b, fp p S' b → h0.size ≤ b := fun b hb => by
  rcases g.nw b hb with h | h
  · exact hf2 b h
  · omega
theorem c_lives {h : Hp} {K : Bool → Hp → Prop} (hK : ∀ h', Ext h h' → K true h') : C_law15_lives h K := by
  refine F_law15_lives_ok _ _ (s_New fun p S h2 q hS hf e2 => ?_)
  refine box_to [.int .u64 3, .int .i64 2, .slice none 0 0, .string (ByteArray.mk #[97])] rfl fun h3 b3 e3 z3 => ?_
  refine obj4 (s := ⟨none, 0, 0⟩) b3 ?_
  have rv : V32 h3 ⟨none, 0, 0⟩ [] := IsRow.nil _ _ _ _
  refine s_Put (q.ext e3) (by rw [hS]; decide) rv (by simp) (fun S' h4 _ q' sg hsl => ?_) fun h4 hm _ => (ids_nil hm).elim
  refine cnd_yes rfl ?_
  have hp3 : ¬ fp p S h2.size := fun hh => by have := q.lt _ hh; omega
  have b4 : Blk h4 h2.size #[.int .u64 3, .int .i64 2, .slice none 0 0, .string (ByteArray.mk #[97])] := by
    obtain ⟨e, hb⟩ := b3
    exact ⟨e, by rw [sg.get _ (block_lt hb) hp3]; exact hb⟩
  have x4 : Ext h h4 := sg.ext (e2.trans e3) hf
  refine obj4 (s := ⟨none, 0, 0⟩) b4 ?_
  have q' : SW h4 p S' [⟨3, 2, [], ByteArray.mk #[97]⟩] := q'
  have hin : (3 : Int) ∈ ([⟨3, 2, [], ByteArray.mk #[97]⟩] : List It).map (·.id) := by simp
  refine s_Put q' (by rw [hS] at hsl; simp at hsl; omega) (IsRow.nil _ _ _ _) (by simp : ([] : List Int).length * 4 ≤ _) (fun S2 h5 hn => (hn hin).elim) fun h5 _ e5 => ?_
  have q5 := q'.ext e5
  refine cnd_yes rfl (s_Len q5 (cnd_yes rfl (s_Has q5 (by simp) fun h6 e6 => ?_)))
  rw [decide_eq_true hin]
  exact hK h6 ((x4.trans e5).trans e6)
theorem SW.onlyS {h h' : Hp} {p : Nat} {S : SP} {its : List It} (q : SW h p S its) {t : Sl} (u : OnlyS t h h') (ht : ∀ a, t.a = some a → ¬ fp p S a.block) : SW h' p S its :=
  q.keep u.1 fun b hb => u.2 b (q.lt b hb) fun a ha e => ht a ha (e ▸ hb)
theorem app_empty {h : Hp} {s : Sl} {l : List Int} (r : V32 h s l) {e e1 : TypeId} (hb : l.length * 4 ≤ 140737488355328) {K : Sl → Hp → Prop} (hk : ∀ s' h', OwnRow e32 1 h.size h' s' l → Ext h h' → K s' h') :
    Let (Array.push h (Obj.cells #[] e)) fun (h1 : Hp) => Let (Addr.mk (Array.size h) 0 none) fun p => appS e1 1 4 [.int .i32 0] (some p) 0 0 (.slice s.a s.len s.cap) h1 K := by
  refine push_to fun h1 b1 e1 z1 => let_to ?_
  have own : OwnRow e32 1 h.size h1 ⟨some ⟨h.size, 0, none⟩, 0, 0⟩ ([] : List Int) := by
    obtain ⟨el, hb1⟩ := b1
    exact ⟨⟨rfl, Nat.le_refl _, fun hne => (hne rfl).elim, fun a i x ha hx => by cases hx⟩, .inr ⟨h.size, #[], el, rfl, Nat.le_refl _, hb1, by simp⟩⟩
  refine app_row e32_ok (by decide) own (r.ext e1) (by omega) (by simpa using hb) (by decide) rfl fun s' h2 o2 u2 _ => hk s' h2 (by simpa using o2) ?_
  exact ⟨Nat.le_trans e1.size u2.1, fun i hi => (u2.2 i (by omega) fun a ha => by cases ha; exact Nat.ne_of_lt hi).trans (e1.get i hi)⟩
theorem storeOwn_ok {h : Hp} {id by_ : Int} {s : Sl} {L : List Int} (r : V32 h s L) (hL : L.length * 4 ≤ 140737488355328) : C_law15_StoreOwn id s by_ h (Yes h) := by
  have hsl := r.len
  refine F_law15_StoreOwn_ok _ _ _ _ _ (s_New fun p S h2 q hS hf e2 => app_empty (r.ext e2) hL fun t h6 ot e6 => ?_)
  refine box_to [.int .u64 id, .int .i64 1, .slice t.a t.len t.cap, .string (ByteArray.mk #[])] rfl fun h7 b7 e7 z7 => ?_
  refine obj4 b7 ?_
  have x6 := e2.trans e6
  have x7 := x6.trans e7
  have ot7 := ot.ext e7
  refine s_Put ((q.ext e6).ext e7) (by rw [hS]; decide) ot7.row hL (fun S' g _ q' sg hsl => ?_) fun h4 hm _ => (ids_nil hm).elim
  rw [Jn_eq]
  have q' : SW g p S' [⟨id, 1, L, ByteArray.mk #[]⟩] := q'
  have hz6 := e6.size
  have hS'f : ∀ b, fp p S' b → b < h2.size ∨ h7.size ≤ b := fun b hb => by
    rcases sg.nw b hb with h | h
    · exact .inl (q.lt b h)
    · exact .inr h
  have hSf : ∀ b, fp p S b → b < h2.size := q.lt
  have xg : Ext h g := sg.ext x7 hf
  have bg : Blk g h6.size #[.int .u64 id, .int .i64 1, .slice t.a t.len t.cap, .string (ByteArray.mk #[])] := by
    obtain ⟨e, hb⟩ := b7
    exact ⟨e, by rw [sg.get _ (block_lt hb) fun hh => by have := hSf _ hh; omega]; exact hb⟩
  have otg : OwnRow e32 1 h2.size g t L := own_keep ot7 fun a ha => sg.get _ (ot7.lt a ha) fun hh => by have := hSf _ hh; have := ot.above a ha; omega
  have tfp : ∀ a, t.a = some a → ¬ fp p S' a.block := fun a ha hh => by
    have h1 := ot.above a ha; have h2 := ot.lt a ha
    rcases hS'f _ hh with h | h <;> omega
  have hsg := sg.size
  refine Lp.inv (fun st => ∃ (k : Nat) (L2 : List Int), st.1.1 = (k : Int) ∧ L2.length = L.length ∧ k ≤ L.length ∧ Ext h st.2 ∧ g.size ≤ st.2.size ∧ Blk st.2 h6.size #[.int .u64 id, .int .i64 1, .slice t.a t.len t.cap, .string (ByteArray.mk #[])] ∧ OwnRow e32 1 h2.size st.2 t L2 ∧ SW st.2 p S' [⟨id, 1, L, ByteArray.mk #[]⟩]) (fun st => L.length - st.1.1.toNat) ?_ ⟨0, L, rfl, rfl, by omega, xg, Nat.le_refl _, bg, otg, q'⟩
  rintro ⟨⟨i, ⟨⟩⟩, w⟩ R ⟨k, L2, hi, hL2, hk, xw, hws, bw, otw, qw⟩ hR
  simp only at hi xw bw otw qw hws
  subst hi
  unfold L2_law15_StoreOwn
  dsimp only
  refine cnd_dec.2 ⟨fun hlt => ?_, fun hge => ?_⟩
  · have hx : L2[k]? = some (L2[k]'(by omega)) := List.getElem?_eq_getElem _
    generalize (L2[k]'(by omega)) = v at hx
    refine ldA_blk (s := .sl) (i := 2) (x := t) bw rfl (ld_int0 otw.row (by omega) (by simpa using hx) (let_to ?_))
    refine own_set e32_ok otw (k := k) rfl (by omega) rfl fun w2 o2 u2 _ z2 => let_to ?_
    rw [wrap_i64 (by omega) (by omega)]
    refine hR _ ⟨k + 1, _, rfl, by rw [List.length_set]; exact hL2, by omega, ?_, by simp only; omega, bw.onlyS u2 fun a ha => ?_, o2, qw.onlyS u2 tfp⟩ (by show L.length - ((k : Int) + 1).toNat < L.length - (k : Int).toNat; omega)
    · exact (xw.bel.trans (u2.bel xw.size fun a ha => by have := otw.above a ha; have := e2.size; omega)).ext
    · have := ot.lt a ha; omega
  · clear hR R
    unfold J1_law15_StoreOwn
    have hid1 : id ∈ ([⟨id, 1, L, ByteArray.mk #[]⟩] : List It).map (·.id) := by simp
    refine s_Get qw (by simp) (fun it y w3 hm _ oy e3 => ?_) fun w3 hn _ => (hn hid1).elim
    obtain rfl := List.mem_singleton.1 hm
    simp only at oy
    refine box_to [.int .i64 1, .slice y.a y.len y.cap, .string (ByteArray.mk #[])] rfl fun w4 b4 e4 z4 => ?_
    show ∃ n, Lp (L1_law15_StoreOwn by_ ⟨w3.size, 0, none⟩ (J2_law15_StoreOwn id s (Yes h) (some ⟨p, 0, none⟩))) n ((0, ()), w4)
    have hz3 := e3.size
    have q4 := (qw.ext e3).ext e4
    have oy4 := oy.ext e4
    have yfp : ∀ a, y.a = some a → ¬ fp p S' a.block := fun a ha hh => by
      have h1 := oy.above a ha
      have := qw.lt _ hh; omega
    refine Lp.inv (fun st => ∃ (k : Nat) (L3 : List Int), st.1.1 = (k : Int) ∧ L3.length = L.length ∧ k ≤ L.length ∧ Ext h st.2 ∧ Blk st.2 w3.size #[.int .i64 1, .slice y.a y.len y.cap, .string (ByteArray.mk #[])] ∧ OwnRow e32 1 w.size st.2 y L3 ∧ SW st.2 p S' [⟨id, 1, L, ByteArray.mk #[]⟩]) (fun st => L.length - st.1.1.toNat) ?_ ⟨0, L, rfl, rfl, by omega, (xw.trans e3).trans e4, b4, oy4, q4⟩
    rintro ⟨⟨i, ⟨⟩⟩, w5⟩ R ⟨k, L3, hi, hL3, hk, x5, b5, o5, q5⟩ hR
    simp only at hi x5 b5 o5 q5
    subst hi
    unfold L1_law15_StoreOwn
    dsimp only
    have hyl := o5.row.len
    refine ldA_blk (s := .sl) (i := 1) (x := y) b5 rfl (cnd_dec.2 ⟨fun hlt => ?_, fun hge => ?_⟩)
    · have hx : L3[k]? = some (L3[k]'(by omega)) := List.getElem?_eq_getElem _
      generalize (L3[k]'(by omega)) = v at hx
      refine ldA_blk (s := .sl) (i := 1) (x := y) b5 rfl (ld_int0 o5.row (by omega) (by simpa using hx) (let_to ?_))
      refine own_set e32_ok o5 (k := k) rfl (by omega) rfl fun w2 o2 u2 _ z2 => let_to ?_
      rw [wrap_i64 (by omega) (by omega)]
      refine hR _ ⟨k + 1, _, rfl, by rw [List.length_set]; exact hL3, by omega, ?_, b5.onlyS u2 fun a ha => ?_, o2, q5.onlyS u2 yfp⟩ (by show L.length - ((k : Int) + 1).toNat < L.length - (k : Int).toNat; omega)
      · exact (x5.bel.trans (u2.bel x5.size fun a ha => by have := oy.above a ha; have := xw.size; omega)).ext
      · have := oy.lt a ha; omega
    · unfold J2_law15_StoreOwn
      refine s_Get q5 (by simp) (fun it z w6 hm _ oz e6' => ?_) fun w3 hn _ => (hn hid1).elim
      obtain rfl := List.mem_singleton.1 hm
      simp only at oz
      refine box_to [.int .i64 1, .slice z.a z.len z.cap, .string (ByteArray.mk #[])] rfl fun w7 b7' e7' z7' => ?_
      refine obj3 b7' ?_
      have x7' := (x5.trans e6').trans e7'
      refine r_Same (oz.row.ext e7') (r.ext x7') (by omega) rfl fun w8 e8 => cnd_yes rfl (c_lives fun w9 e9 => ⟨rfl, (x7'.trans e8).trans e9⟩)

theorem storeNone_ok {h : Hp} {id tag : Int} {s : Sl} {str : ByteArray} : C_law15_StoreNone id tag s str h (Yes h) := by
  refine F_law15_StoreNone_ok _ _ _ _ _ _ (push_to fun h1 b1 e1 z1 => let_to ?_)
  refine ldA_blk (s := .int .u64) (i := 0) (x := id) b1 rfl ?_
  refine F_store_Store_Get_ok _ _ _ _ (push_to fun g1 c1 f1 y1 => let_to (cnd_yes rfl ?_))
  refine set_to (i := 0) c1 (by simp) fun h9 b9 o9 _ z9 => set_to (i := 1) b9 (by simp) fun h10 b10 o10 _ z10 => set_to (i := 2) b10 (by simp) fun h11 b11 o11 _ z11 => ?_
  refine obj3 (tag := 0) (s := ⟨none, 0, 0⟩) (u := ByteArray.mk #[]) b11 ?_
  have x11 : Ext h1 h11 := ((f1.only_new o9 (Nat.le_refl _)).only_new o10 (Nat.le_refl _)).only_new o11 (Nat.le_refl _)
  refine push_to fun h12a b12a e12a z12a => let_to (set_to (i := 0) b12a (by simp) fun h12b b12b o12b _ z12b => set_to (i := 1) b12b (by simp) fun h12c b12c o12c _ z12c => set_to (i := 2) b12c (by simp) fun h12 b12 o12 _ z12 => ?_)
  have e12 : Ext h11 h12 := ((e12a.only_new o12b (Nat.le_refl _)).only_new o12c (Nat.le_refl _)).only_new o12 (Nat.le_refl _)
  have b12 : Blk h12 h11.size #[.int .i64 0, .slice none 0 0, .string (ByteArray.mk #[])] := by simpa using b12
  refine s_Each (its := []) (by simp) all_nil fun gf lb pb h13 it hpb b13 e13 => ?_
  show funNil (.func (.func gf) #[] lb) _
  unfold funNil
  dsimp only
  refine cnd_no rfl ?_
  refine push_to fun h14 b14 e14 z14 => ?_
  refine let_to ⟨rfl, ?_⟩
  refine set_to (i := 0) b14 (by simp) fun h15 b15 o15 _ z15 => ?_
  rw [Jn_eq]
  have x13 : Ext h h13 := ((e1.trans x11).trans e12).trans e13
  have x15 : Ext h13 h15 := e14.only_new o15 (Nat.le_refl _)
  have xh15 := x13.trans x15
  refine rngF_ofQ it (fun g => Ext h15 g) (fun _ _ g => Ext h15 g) (fun _ _ _ _ => False) (fun g1 g2 a st => st.ext a (Nat.le_refl _)) (fun S pre g1 g2 a st => st.ext a (Nat.le_refl _)) (fun _ _ _ _ _ h => h.elim) ?_ ?_ (fun _ _ _ h => h) (Ext.refl _) ?_ ?_ (fun _ _ _ _ _ h => h.elim)
  · intro g a
    refine ⟨?_, (b13.ext x15).ext a, trivial⟩
    have := e13.size; have := x15.size; have := a.size; omega
  · intro S pre g a
    refine ⟨?_, (b13.ext x15).ext a, trivial⟩
    have := e13.size; have := x15.size; have := a.size; omega
  · rintro S pre x g ⟨it, hit, _⟩ _
    simp at hit
  · intro S xs g _ a
    unfold J1_law15_StoreNone
    have xg := xh15.trans a
    have b1g := ((((b1.ext x11).ext e12).ext e13).ext x15).ext a
    have b12g := ((b12.ext e13).ext x15).ext a
    have bn : Blk g h13.size #[.int .i64 0] := (show Blk h15 h13.size #[.int .i64 0] by simpa using b15).ext a
    refine obj4 b1g ?_
    refine F_store_Store_Put_ok _ _ _ _ _ _ _ (push_to fun g2 c2 f2 y2 => let_to (cnd_yes rfl (cnd_yes rfl ?_)))
    refine ldA_blk (s := .int .u64) (i := 0) (x := id) (b1g.ext f2) rfl (F_store_Store_Cut_ok _ _ _ _ (cnd_yes rfl (cnd_yes rfl (cnd_yes rfl ?_))))
    refine obj3 (tag := 0) (s := ⟨none, 0, 0⟩) (u := ByteArray.mk #[]) (b12g.ext f2) ?_
    refine r_Same (l := []) (IsRow.nil _ _ _ _) (IsRow.nil _ _ _ _) (by simp) rfl fun g3 e3 => cnd_yes rfl ?_
    refine ldA_blk (s := .int .u64) (i := 0) (x := id) ((b1g.ext f2).ext e3) rfl (F_store_Store_Has_ok _ _ _ _ (cnd_yes rfl (cnd_yes rfl ?_)))
    refine F_store_Store_Len_ok _ _ _ (cnd_yes rfl (cnd_yes rfl ?_))
    refine s_Items (its := []) (by simp) all_nil (fun _ _ => trivial) fun t ys g4 rt at_ e4 => ?_
    have htl := rt.len
    rw [at_.1] at htl
    refine cnd_yes (by rw [htl]; rfl) (ldA_blk (s := .int .i64) (i := 0) (x := 0) (((bn.ext f2).ext e3).ext e4) rfl (cnd_yes rfl (c_lives fun g5 e5 g6 st => ⟨rfl, ?_⟩)))
    exact st.ext ((((xg.trans f2).trans e3).trans e4).trans e5) (Nat.le_refl _)
end Go.Proofs.YthnkmmnipihkeaaF
