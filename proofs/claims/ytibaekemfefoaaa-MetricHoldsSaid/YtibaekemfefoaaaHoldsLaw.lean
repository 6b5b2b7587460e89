/- Chapter 9: of right things it is a metric. No condition. -/
import Derived.Test.YtibaekemfefoaaaHoldsReg
import Derived.Test.YtibaekemfefoaaaMetricT
import Derived.Test.YtibaekemfefoaaaMetricLaw
import Derived.Test.YtibaekemfefoaaaLevLaw
import Derived.Test.YtibaekemfefoaaaLoneLaw
namespace Go.Proofs.YtibaekemfefoaaaF
open Go Go.Proofs.YtibaekemfefoaaaK
set_option linter.unusedSimpArgs false
set_option linter.unusedVariables false

theorem filter_two {p q r : Nat → Bool} (h : ∀ i, p i = true → q i = true ∨ r i = true) : ∀ l : List Nat, (l.filter p).length ≤ (l.filter q).length + (l.filter r).length
  | [] => by simp
  | x :: l => by
    have ih := filter_two h l
    have hx := h x
    simp only [List.filter_cons]
    cases hp : p x <;> cases hq : q x <;> cases hr : r x <;> simp [hp, hq, hr] at hx ⊢ <;> omega
theorem hamd_eq {a b : List Int} (h : a.length = b.length) : hamd a b = (dif a b a.length).length := by unfold hamd; rw [h]; simp
theorem hamd_tri {a b c : List Int} (h : a.length = b.length) (h2 : a.length = c.length) : hamd a b ≤ hamd a c + hamd c b := by
  rw [hamd_eq h, hamd_eq h2, hamd_eq (h2.symm.trans h), ← h2]
  refine filter_two (fun i hi => ?_) _
  simp only [Bool.not_eq_true', beq_eq_false_iff_ne] at hi ⊢
  by_cases e : a[i]? = c[i]?
  · exact .inr (by rw [← e]; exact hi)
  · exact .inl e
theorem hamd_zero {a b : List Int} (h : a.length = b.length) : hamd a b = 0 ↔ a = b := by
  rw [hamd_eq h]
  constructor
  · intro h0
    apply List.ext_getElem?
    intro i
    rcases Nat.lt_or_ge i a.length with hi | hi
    · have := List.length_eq_zero_iff.1 h0
      unfold dif at this
      have h1 := List.filter_eq_nil_iff.1 this i (List.mem_range.2 hi)
      simpa using h1
    · rw [List.getElem?_eq_none hi, List.getElem?_eq_none (by omega)]
  · rintro rfl; rw [dif_self]; rfl
theorem hamd_le {a b : List Int} : hamd a b ≤ a.length + b.length := by
  unfold hamd dif
  have := List.length_filter_le (fun i => !(a[i]? == b[i]?)) (List.range (min a.length b.length))
  rw [List.length_range] at this
  omega
theorem ldist_zero {a b : List Int} (h : a.length = b.length) : ldist a b = 0 ↔ a = b := by
  rw [ldist_lsumN (n := a.length) (by omega), lsumN_zero]
  constructor
  · intro hz
    apply List.ext_getElem?
    intro i
    rcases Nat.lt_or_ge i a.length with hi | hi
    · have := hz i hi
      unfold zat at this
      rw [List.getElem?_eq_getElem hi, List.getElem?_eq_getElem (by omega : i < b.length)] at this ⊢
      simpa using this
    · rw [List.getElem?_eq_none hi, List.getElem?_eq_none (by omega)]
  · rintro rfl; intro i _; rfl
theorem sum_le : ∀ {l : List Int} {m : Int}, (∀ x ∈ l, 0 ≤ x ∧ x ≤ m) → l.sum ≤ l.length * m
  | [], m, _ => by simp
  | x :: l, m, h => by
    have h1 := h x (by simp)
    have h2 := sum_le (l := l) (m := m) fun y hy => h y (by simp [hy])
    rw [List.sum_cons, List.length_cons, Int.natCast_add, Int.add_mul]; omega
theorem ldist_le {a b : List Int} (ha : Ok32 a) (hb : Ok32 b) (hla : a.length ≤ 120) (hlb : b.length ≤ 120) : ldist a b ≤ 515396075400 := by
  have h := sum_le (dsts_bd ha hb)
  unfold ldist
  have hl : (dsts a b).length ≤ 120 := by unfold dsts; rw [List.length_map, List.length_range]; omega
  have : ((dsts a b).length : Int) * 4294967295 ≤ 120 * 4294967295 := Int.mul_le_mul_of_nonneg_right (by omega) (by omega)
  omega
/-- A right thing. -/
def RO (n size tag : Int) (o : Ob) : Prop := (n = 1 ∧ tag = 1 ∧ (o.1.length : Int) = size ∧ o.2.size = 0) ∨ (n = 2 ∧ tag = 2 ∧ (o.2.size : Int) = size ∧ o.1.length = 0) ∨ (n = 3 ∧ tag = 2 ∧ o.1.length = 0)
def Sm (o : Ob) : Prop := o.1.length ≤ 120 ∧ o.2.size ≤ 120
theorem bts0 {a b : ByteArray} (h : bts a = bts b) : a = b := bts_inj h
theorem str0 {a b : ByteArray} (ha : a.size = 0) (hb : b.size = 0) : a = b := bts0 (by rw [show bts a = [] from List.length_eq_zero_iff.1 (by rw [bts_len]; exact ha), show bts b = [] from List.length_eq_zero_iff.1 (by rw [bts_len]; exact hb)])
theorem vec0 {a b : List Int} (ha : a.length = 0) (hb : b.length = 0) : a = b := by rw [List.length_eq_zero_iff.1 ha, List.length_eq_zero_iff.1 hb]
theorem od_zero {n size t u : Int} {a b : Ob} (ra : RO n size t a) (rb : RO n size u b) : t = u ∧ (od n a b = 0 ↔ a = b) := by
  unfold RO at ra rb
  unfold od
  rcases ra with ⟨n1, t1, v1, s1⟩ | ⟨n1, t1, v1, s1⟩ | ⟨n1, t1, v1⟩ <;> rcases rb with ⟨n2, t2, v2, s2⟩ | ⟨n2, t2, v2, s2⟩ | ⟨n2, t2, v2⟩ <;> first | (exfalso; omega) | skip
  · refine ⟨by omega, ?_⟩
    rw [if_pos n1, ldist_zero (by omega)]
    exact ⟨fun h => Prod.ext h (str0 s1 s2), fun h => by rw [h]⟩
  · refine ⟨by omega, ?_⟩
    rw [if_neg (by omega), if_pos n1]
    rw [show ((hamd (bts a.2) (bts b.2) : Nat) : Int) = 0 ↔ hamd (bts a.2) (bts b.2) = 0 by omega, hamd_zero (by rw [bts_len, bts_len]; omega)]
    exact ⟨fun h => Prod.ext (vec0 s1 s2) (bts0 h), fun h => by rw [h]⟩
  · refine ⟨by omega, ?_⟩
    rw [if_neg (by omega), if_neg (by omega), if_pos n1]
    rw [show ((ed (bts a.2) (bts b.2) : Nat) : Int) = 0 ↔ ed (bts a.2) (bts b.2) = 0 by omega, ed_zero]
    exact ⟨fun h => Prod.ext (vec0 v1 v2) (bts0 h), fun h => by rw [h]⟩
theorem od_tri {n size t u v : Int} {a b c : Ob} (ra : RO n size t a) (rb : RO n size u b) (rc : RO n size v c) : od n a b ≤ od n a c + od n c b := by
  unfold RO at ra rb rc
  unfold od
  split
  · exact ldist_tri _ _ _
  · split
    · have := hamd_tri (a := bts a.2) (b := bts b.2) (c := bts c.2) (by rw [bts_len, bts_len]; omega) (by rw [bts_len, bts_len]; omega)
      omega
    · split
      · have := ed_tri (bts a.2) (bts b.2) (bts c.2); omega
      · omega
theorem od_max {n : Int} {a b : Ob} (oa : Ok32 a.1) (ob : Ok32 b.1) (sa : Sm a) (sb : Sm b) : od n a b ≤ 1125899906842624 := by
  unfold Sm at sa sb
  unfold od
  split
  · have := ldist_le oa ob sa.1 sb.1; omega
  · split
    · have := @hamd_le (bts a.2) (bts b.2); rw [bts_len, bts_len] at this; omega
    · split
      · have := ed_max (bts a.2) (bts b.2); rw [bts_len, bts_len] at this; omega
      · omega
theorem oleast_le {n size t u : Int} {a b : Ob} (ra : RO n size t a) (rb : RO n size u b) : oleast n a b ≤ od n a b := by
  unfold RO at ra rb
  unfold oleast od
  split
  · exact lleast_le _ _
  · split
    · omega
    · split
      · exact least_le _ _
      · omega
/-! Right, and the same. -/
theorem r_Right {n size : Int} {x : StA OT} {o : Ob} {h : Hp} {K : Bool → Hp → Prop} (rx : ObX h x o) (hK : ∀ t h', (t = true → RO n size (oTag x) o) → Ext h h' → K t h') : C_ref05_Right (oTag x) (oVec x) (oStr x) n size h K := by
  have hv := rx.vec.len
  have hs := rx.str
  refine F_ref05_Right_ok _ _ _ _ _ _ _ (push_to fun h1 b1 e1 z1 => let_to ?_)
  rw [Jn_eq]
  have no : K false h1 := hK false h1 (fun e => by cases e) e1
  refine cnd_dec.2 ⟨fun _ => no, fun _ => cnd_dec.2 ⟨fun _ => no, fun _ => ?_⟩⟩
  unfold J1_ref05_Right
  have lt : ∀ {K : Int → Prop}, K (oTag x) → ldA (.int .i64) h1 ⟨h.size, 0, none⟩ K := fun hk => ldA_blk (s := .int .i64) (i := 0) (x := oTag x) b1 rfl hk
  have lv : ∀ {K : Sl → Prop}, K (oVec x) → ldA .sl h1 ⟨h.size, 1, none⟩ K := fun hk => ldA_blk (s := .sl) (i := 1) (x := oVec x) b1 rfl hk
  have ls : ∀ {K : ByteArray → Prop}, K (oStr x) → ldA .str h1 ⟨h.size, 2, none⟩ K := fun hk => ldA_blk (s := .str) (i := 2) (x := oStr x) b1 rfl hk
  refine cnd_beq.2 ⟨fun n1 => lt (cnd_beq.2 ⟨fun t1 => lv (cnd_beq.2 ⟨fun v1 => ls (hK _ h1 (fun e => .inl ⟨n1, t1, by omega, ?_⟩) e1), fun _ => no⟩), fun _ => no⟩), fun n1 => cnd_beq.2 ⟨fun n2 => lt (cnd_beq.2 ⟨fun t1 => ls (cnd_beq.2 ⟨fun v1 => lv (hK _ h1 (fun e => .inr (.inl ⟨n2, t1, by rw [← hs]; exact v1, ?_⟩)) e1), fun _ => no⟩), fun _ => no⟩), fun n2 => cnd_beq.2 ⟨fun n3 => lt (cnd_beq.2 ⟨fun t1 => ls (cnd_dec.2 ⟨fun v1 => lv (hK _ h1 (fun e => .inr (.inr ⟨n3, t1, ?_⟩)) e1), fun _ => no⟩), fun _ => no⟩), fun _ => no⟩⟩⟩
  · rw [← hs]; have := beq_iff_eq.1 e; omega
  · have := beq_iff_eq.1 e; omega
  · have := beq_iff_eq.1 e; omega
def lexL (e : Bool) : List Int → List Int → Bool
  | x :: xs, y :: ys => if x ≠ y then decide (x < y) else lexL e xs ys
  | _, _ => e
theorem lexL_get {e : Bool} {l m : List Int} {k : Nat} {x y : Int} (hx : l[k]? = some x) (hy : m[k]? = some y) : lexL e (l.drop k) (m.drop k) = if x ≠ y then decide (x < y) else lexL e (l.drop (k + 1)) (m.drop (k + 1)) := by
  obtain ⟨h1, h2⟩ := List.getElem?_eq_some_iff.1 hx
  obtain ⟨h3, h4⟩ := List.getElem?_eq_some_iff.1 hy
  rw [List.drop_eq_getElem_cons h1, List.drop_eq_getElem_cons h3, h2, h4]; rfl
theorem lexL_self (e : Bool) : ∀ l : List Int, lexL e l l = e
  | [] => rfl
  | x :: l => by simp [lexL, lexL_self e l]
theorem lexL_eq {e f : Bool} : ∀ {l m : List Int}, l.length = m.length → lexL e l m = false → lexL f m l = false → l = m ∧ e = false ∧ f = false
  | [], [], _, h1, h2 => ⟨rfl, h1, h2⟩
  | x :: l, y :: m, hl, h1, h2 => by
    unfold lexL at h1 h2
    by_cases hxy : x = y
    · subst hxy
      simp only [ne_eq, not_true, if_false] at h1 h2
      obtain ⟨h3, h4, h5⟩ := lexL_eq (by simpa using hl) h1 h2
      exact ⟨by rw [h3], h4, h5⟩
    · rw [if_pos hxy] at h1
      rw [if_pos (fun e => hxy e.symm)] at h2
      simp at h1 h2
      omega
  | [], _ :: _, hl, _, _ => by simp at hl
  | _ :: _, [], hl, _, _ => by simp at hl
theorem bytesLess_self : ∀ l : List UInt8, Op.bytesLess l l = false
  | [] => rfl
  | a :: l => by simp [Op.bytesLess, bytesLess_self l]
theorem bytesLess_eq : ∀ {l m : List UInt8}, Op.bytesLess l m = false → Op.bytesLess m l = false → l = m
  | [], [], _, _ => rfl
  | [], _ :: _, h1, _ => by simp [Op.bytesLess] at h1
  | _ :: _, [], _, h2 => by simp [Op.bytesLess] at h2
  | a :: l, b :: m, h1, h2 => by
    simp only [Op.bytesLess, Bool.or_eq_false_iff, decide_eq_false_iff_not] at h1 h2
    have hab : a = b := UInt8.le_antisymm (UInt8.not_lt.1 h2.1) (UInt8.not_lt.1 h1.1)
    subst hab
    have h3 := h1.2
    have h4 := h2.2
    simp at h3 h4
    rw [bytesLess_eq h3 h4]
def lessO (a b : Ob) : Bool := if a.1.length ≠ b.1.length then decide (a.1.length < b.1.length) else lexL (strLt a.2 b.2) a.1 b.1
theorem lessO_eq {a b : Ob} : (lessO a b = false ∧ lessO b a = false) ↔ a = b := by
  constructor
  · rintro ⟨h1, h2⟩
    unfold lessO at h1 h2
    by_cases hl : a.1.length = b.1.length
    · rw [if_neg (by omega)] at h1 h2
      obtain ⟨h3, h4, h5⟩ := lexL_eq hl h1 h2
      refine Prod.ext h3 ?_
      have := bytesLess_eq h4 h5
      rw [ByteArray.toList_eq, ByteArray.toList_eq] at this
      exact ByteArray.ext (Array.ext' this)
    · rw [if_pos hl] at h1
      rw [if_pos (fun e => hl e.symm)] at h2
      simp at h1 h2; omega
  · rintro rfl
    have : lessO a a = false := by unfold lessO; rw [if_neg (by simp), lexL_self]; exact bytesLess_self _
    exact ⟨this, this⟩
theorem r_Less {x y : StA OT} {a b : Ob} {h : Hp} {K : Bool → Hp → Prop} (rx : ObR h x a) (ry : ObR h y b) (ht : oTag x = oTag y) (hK : ∀ h', Ext h h' → K (lessO a b) h') : C_ref05_Less (oTag x) (oVec x) (oStr x) (oTag y) (oVec y) (oStr y) h K := by
  have hxl := rx.vec.len
  have hyl := ry.vec.len
  have hvx := rx.vl
  have hvy := ry.vl
  refine F_ref05_Less_ok _ _ _ _ _ _ _ _ (push_to fun h1 b1 e1 z1 => let_to (push_to fun h3 b3 e3 z3 => let_to ?_))
  have b1' := b1.ext e3
  have x3 := e1.trans e3
  have ld1 : ∀ {K : Sl → Prop}, K (oVec x) → ldA .sl h3 ⟨h.size, 1, none⟩ K := fun hk => ldA_blk (s := .sl) (i := 1) (x := oVec x) b1' rfl hk
  have ld3 : ∀ {K : Sl → Prop}, K (oVec y) → ldA .sl h3 ⟨h1.size, 1, none⟩ K := fun hk => ldA_blk (s := .sl) (i := 1) (x := oVec y) b3 rfl hk
  refine ldA_blk (s := .int .i64) (i := 0) (x := oTag x) b1' rfl (ldA_blk (s := .int .i64) (i := 0) (x := oTag y) b3 rfl (cnd_bne.2 ⟨fun hne => (hne ht).elim, fun _ => ?_⟩))
  unfold lessO at hK
  refine ld1 (ld3 (cnd_bne.2 ⟨fun hne => ld1 (ld3 ?_), fun heq => ?_⟩))
  · rw [if_pos (by omega)] at hK
    have := hK h3 x3
    rw [show decide (((oVec x).len : Int) < ((oVec y).len : Int)) = decide (a.1.length < b.1.length) by congr 1; apply propext; omega]; exact this
  rw [if_neg (by omega)] at hK
  rw [Jn_eq]
  refine Lp.inv (fun st => st.2 = h3 ∧ ∃ k : Nat, st.1.1 = (k : Int) ∧ k ≤ a.1.length ∧ lexL (strLt a.2 b.2) a.1 b.1 = lexL (strLt a.2 b.2) (a.1.drop k) (b.1.drop k)) (fun st => a.1.length - st.1.1.toNat) ?_ ⟨rfl, 0, rfl, by omega, rfl⟩
  rintro ⟨⟨i, ⟨⟩⟩, g⟩ R ⟨hg, k, hi, hk, hlx⟩ hR
  simp only at hg hi
  subst hg; subst hi
  unfold L1_ref05_Less
  dsimp only
  refine ld1 (cnd_dec.2 ⟨fun hlt => ?_, fun hge => ?_⟩)
  · have hx : a.1[k]? = some (a.1[k]'(by omega)) := List.getElem?_eq_getElem _
    have hy : b.1[k]? = some (b.1[k]'(by omega)) := List.getElem?_eq_getElem _
    generalize (a.1[k]'(by omega)) = u at hx
    generalize (b.1[k]'(by omega)) = v at hy
    rw [lexL_get hx hy] at hlx
    have lu : ∀ {K : Int → Prop}, K u → idxS (oVec x).a (oVec x).len (k : Int) 1 fun p => ldA (.int .i32) g p K := fun hk => ld_int0 (rx.vec.ext x3) (by omega) (by simpa using hx) hk
    have lv : ∀ {K : Int → Prop}, K v → idxS (oVec y).a (oVec y).len (k : Int) 1 fun p => ldA (.int .i32) g p K := fun hk => ld_int0 (ry.vec.ext x3) (by omega) (by simpa using hy) hk
    refine ld1 (lu (ld3 (lv (cnd_bne.2 ⟨fun hne => ld1 (lu (ld3 (lv ?_))), fun he => let_to ?_⟩))))
    · rw [if_pos hne] at hlx
      have := hK g x3
      rw [hlx] at this; exact this
    · rw [if_neg (by omega)] at hlx
      rw [wrap_i64 (by omega) (by omega)]
      exact hR _ ⟨rfl, k + 1, rfl, by omega, hlx⟩ (by show a.1.length - ((k : Int) + 1).toNat < a.1.length - (k : Int).toNat; omega)
  · unfold J1_ref05_Less
    refine ldA_blk (s := .str) (i := 2) (x := oStr x) b1' rfl (ldA_blk (s := .str) (i := 2) (x := oStr y) b3 rfl ?_)
    have := hK g x3
    rw [hlx, List.drop_eq_nil_of_le (by omega)] at this
    rw [rx.str, ry.str]
    exact this
theorem r_Same {x y : StA OT} {a b : Ob} {h : Hp} {K : Bool → Hp → Prop} (rx : ObR h x a) (ry : ObR h y b) (ht : oTag x = oTag y) (hK : ∀ (t : Bool) h', (t = true ↔ a = b) → Ext h h' → K t h') : C_ref05_Same (oTag x) (oVec x) (oStr x) (oTag y) (oVec y) (oStr y) h K := by
  refine F_ref05_Same_ok _ _ _ _ _ _ _ _ (push_to fun h1 b1 e1 z1 => let_to (push_to fun h3 b3 e3 z3 => let_to ?_))
  have b1' := b1.ext e3
  have x3 := e1.trans e3
  have obj : ∀ {g : Hp} {b : Nat} {x : StA OT} {K : Int → Sl → ByteArray → Prop}, Blk g b #[.int .i64 (oTag x), .slice (oVec x).a (oVec x).len (oVec x).cap, .string (oStr x)] → K (oTag x) (oVec x) (oStr x) → ldA (.int .i64) g ⟨b, 0, none⟩ fun a => ldA .sl g ⟨b, 1, none⟩ fun c => ldA .str g ⟨b, 2, none⟩ fun d => K a c d := fun {g b x K} r hk =>
    ldA_blk (s := .int .i64) (i := 0) (x := oTag x) r rfl (ldA_blk (s := .sl) (i := 1) (x := oVec x) r rfl (ldA_blk (s := .str) (i := 2) (x := oStr x) r rfl hk))
  refine obj b1' (obj b3 (r_Less (rx.ext x3) (ry.ext x3) ht fun h12 e12 => cnd_not.2 (cnd_if (fun hl => ?_) fun hl => ?_)))
  · exact hK _ _ ⟨fun e => (by cases e), fun e => by have := (lessO_eq.2 e).1; rw [this] at hl; cases hl⟩ (x3.trans e12)
  · refine obj (b3.ext e12) (obj (b1'.ext e12) (r_Less ((ry.ext x3).ext e12) ((rx.ext x3).ext e12) ht.symm fun h20 e20 => hK _ _ ?_ ((x3.trans e12).trans e20)))
    rw [Bool.not_eq_true']
    exact ⟨fun h => lessO_eq.1 ⟨hl, h⟩, fun h => (lessO_eq.2 h).2⟩
end Go.Proofs.YtibaekemfefoaaaF
