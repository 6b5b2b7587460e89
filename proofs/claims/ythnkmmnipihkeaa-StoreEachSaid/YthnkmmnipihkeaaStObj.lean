/- Chapter 15: things, cloned and compared. No condition. -/
import Derived.Test.YthnkmmnipihkeaaDir
namespace Go.Proofs.YthnkmmnipihkeaaF
open Go Go.Proofs.YthnkmmnipihkeaaK
set_option linter.unusedSimpArgs false
set_option linter.unusedVariables false

abbrev e32 : Int → List Value := Go.Proofs.YthnkmmnipihkeaaK.encI .i32
theorem e32_ok : Enc e32 1 := encI_ok _
abbrev V32 (h : Hp) (s : Sl) (l : List Int) : Prop := IsRow e32 1 h s l
/-- A thing. -/
structure Ob where
  tag : Int
  vec : List Int
  str : ByteArray
def Ob.ok (o : Ob) : Prop := o.vec.length * 4 ≤ 140737488355328
theorem c_Clone32 {h : Hp} {s : Sl} {l : List Int} (r : V32 h s l) (hb : l.length * 4 ≤ 140737488355328) {K : Sl → Hp → Prop} (hK : ∀ s' h', OwnRow e32 1 h.size h' s' l → Ext h h' → K s' h') : C_slices_Clone_int32_int32 s h K :=
  F_slices_Clone_int32_int32_ok _ _ _ (clone_to e32_ok (by decide) r hb (by decide) rfl hK)
theorem c_Clone {h : Hp} {tag : Int} {s : Sl} {str : ByteArray} {l : List Int} (r : V32 h s l) (hb : l.length * 4 ≤ 140737488355328) {K : Int → Sl → ByteArray → Hp → Prop} (hK : ∀ s' h', OwnRow e32 1 h.size h' s' l → Ext h h' → K tag s' str h') : C_object_Clone tag s str h K := by
  refine F_object_Clone_ok _ _ _ _ _ (push_to fun h1 b1 e1 z1 => let_to (push_to fun h3 b3 e3 z3 => let_to ?_))
  refine ldA_blk (s := .sl) (i := 1) (x := s) (b1.ext e3) rfl (c_Clone32 ((r.ext e1).ext e3) hb fun t h7 o7 e7 => ⟨rfl, ?_⟩)
  refine set_to (i := 1) ((b1.ext e3).ext e7) (by simp) fun h8 b8 o8 _ z8 => ?_
  have b3' : Blk h8 h1.size #[.int .i64 0, .slice none 0 0, .string (ByteArray.mk #[])] := (b3.ext e7).only o8 (by omega)
  refine ldA_blk (s := .int .i64) (i := 0) (x := tag) b8 rfl (ldA_blk (s := .sl) (i := 1) (x := t) b8 rfl (ldA_blk (s := .str) (i := 2) (x := str) b8 rfl ?_))
  refine set_to (i := 0) b3' (by simp) fun h9 b9 o9 _ z9 => set_to (i := 1) b9 (by simp) fun h10 b10 o10 _ z10 => set_to (i := 2) b10 (by simp) fun h11 b11 o11 _ z11 => ?_
  refine ldA_blk (s := .int .i64) (i := 0) (x := tag) b11 rfl (ldA_blk (s := .sl) (i := 1) (x := t) b11 rfl (ldA_blk (s := .str) (i := 2) (x := str) b11 rfl ?_))
  have x7 : Ext h h7 := (e1.trans e3).trans e7
  have x8 : Ext h h8 := x7.only_new o8 (Nat.le_refl _)
  have x11 : Ext h h11 := ((x8.only_new o9 (by omega)).only_new o10 (by omega)).only_new o11 (by omega)
  have h7h := e7.size
  refine hK t h11 ?_ x11
  have o7' : OwnRow e32 1 h3.size h8 t l := o7.only o8 (by omega)
  exact (((o7'.only o9 (by omega)).only o10 (by omega)).only o11 (by omega)).weaken (by omega)
theorem bytesLess_self : ∀ l : List UInt8, Op.bytesLess l l = false
  | [] => rfl
  | a :: l => by simp [Op.bytesLess, bytesLess_self l]
theorem strLt_eq {a b : ByteArray} (h : bts a = bts b) : strLt a b = false := by
  rw [bts_inj h]; exact bytesLess_self _
theorem r_Less {h : Hp} {tag : Int} {s t : Sl} {u v : ByteArray} {l : List Int} (rs : V32 h s l) (rt : V32 h t l) (hl : l.length ≤ 4611686018427387904) (huv : bts u = bts v) {K : Bool → Hp → Prop} (hK : ∀ h', Ext h h' → K false h') : C_ref05_Less tag s u tag t v h K := by
  have hsl := rs.len
  have htl := rt.len
  refine F_ref05_Less_ok _ _ _ _ _ _ _ _ (push_to fun h1 b1 e1 z1 => let_to (push_to fun h3 b3 e3 z3 => let_to ?_))
  have b1' := b1.ext e3
  have x3 := e1.trans e3
  have ld1 : ∀ {K : Sl → Prop}, K s → ldA .sl h3 ⟨h.size, 1, none⟩ K := fun hk => ldA_blk (s := .sl) (i := 1) (x := s) b1' rfl hk
  have ld3 : ∀ {K : Sl → Prop}, K t → ldA .sl h3 ⟨h1.size, 1, none⟩ K := fun hk => ldA_blk (s := .sl) (i := 1) (x := t) b3 rfl hk
  refine ldA_blk (s := .int .i64) (i := 0) (x := tag) b1' rfl (ldA_blk (s := .int .i64) (i := 0) (x := tag) b3 rfl (cnd_bne.2 ⟨fun hne => (hne rfl).elim, fun _ => ?_⟩))
  refine ld1 (ld3 (cnd_bne.2 ⟨fun hne => (hne (by rw [hsl, htl])).elim, fun _ => ?_⟩))
  rw [Jn_eq]
  refine Lp.inv (fun st => st.2 = h3 ∧ ∃ k : Nat, st.1.1 = (k : Int) ∧ k ≤ l.length) (fun st => l.length - st.1.1.toNat) ?_ ⟨rfl, 0, rfl, by omega⟩
  rintro ⟨⟨i, ⟨⟩⟩, g⟩ R ⟨hg, k, hi, hk⟩ hR
  simp only at hg hi
  subst hg; subst hi
  unfold L1_ref05_Less
  dsimp only
  refine ld1 (cnd_dec.2 ⟨fun hlt => ?_, fun hge => ?_⟩)
  · have hx : l[k]? = some (l[k]'(by omega)) := List.getElem?_eq_getElem _
    generalize (l[k]'(by omega)) = x at hx
    refine ld1 (ld_int0 (rs.ext x3) (by omega) (by simpa using hx) (ld3 (ld_int0 (rt.ext x3) (by omega) (by simpa using hx) (cnd_bne.2 ⟨fun hne => (hne rfl).elim, fun _ => let_to ?_⟩))))
    rw [wrap_i64 (by omega) (by omega)]
    exact hR _ ⟨rfl, k + 1, rfl, by omega⟩ (by show l.length - ((k : Int) + 1).toNat < l.length - (k : Int).toNat; omega)
  · unfold J1_ref05_Less
    refine ldA_blk (s := .str) (i := 2) (x := u) b1' rfl (ldA_blk (s := .str) (i := 2) (x := v) b3 rfl ?_)
    rw [strLt_eq huv]; exact hK _ x3
theorem r_Same {h : Hp} {tag : Int} {s t : Sl} {u v : ByteArray} {l : List Int} (rs : V32 h s l) (rt : V32 h t l) (hl : l.length ≤ 4611686018427387904) (huv : bts u = bts v) {K : Bool → Hp → Prop} (hK : ∀ h', Ext h h' → K true h') : C_ref05_Same tag s u tag t v h K := by
  refine F_ref05_Same_ok _ _ _ _ _ _ _ _ (push_to fun h1 b1 e1 z1 => let_to (push_to fun h3 b3 e3 z3 => let_to ?_))
  have b1' := b1.ext e3
  have x3 := e1.trans e3
  have obj : ∀ {g : Hp} {b : Nat} {s : Sl} {u : ByteArray} {K : Int → Sl → ByteArray → Prop}, Blk g b #[.int .i64 tag, .slice s.a s.len s.cap, .string u] → K tag s u → ldA (.int .i64) g ⟨b, 0, none⟩ fun a => ldA .sl g ⟨b, 1, none⟩ fun c => ldA .str g ⟨b, 2, none⟩ fun d => K a c d := fun {g b s u K} r hk =>
    ldA_blk (s := .int .i64) (i := 0) (x := tag) r rfl (ldA_blk (s := .sl) (i := 1) (x := s) r rfl (ldA_blk (s := .str) (i := 2) (x := u) r rfl hk))
  refine obj b1' (obj b3 (r_Less (rs.ext x3) (rt.ext x3) hl huv fun h12 e12 => cnd_yes rfl (obj (b3.ext e12) (obj (b1'.ext e12) ?_))))
  exact r_Less ((rt.ext x3).ext e12) ((rs.ext x3).ext e12) hl huv.symm fun h20 e20 => hK h20 ((x3.trans e12).trans e20)
end Go.Proofs.YthnkmmnipihkeaaF
