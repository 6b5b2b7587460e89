/- Chapter 6: how far rows of numbers are apart, and the document's answer. No condition. -/
import Derived.Test.YtibaekemfefoaaaF
import Derived.Test.YtibaekemfefoaaaK12
namespace Go.Proofs.YtibaekemfefoaaaF
open Go Go.Proofs.YtibaekemfefoaaaK
set_option linter.unusedSimpArgs false
set_option linter.unusedVariables false

abbrev R32 := IsRow (encI .i32) 1
/-- The number at a place; behind the end 0. -/
def zat (l : List Int) (i : Nat) : Int := l[i]?.getD 0
def aprt (x y : Int) : Int := if x < y then y - x else x - y
def dsts (a b : List Int) : List Int := (List.range (max a.length b.length)).map fun i => aprt (zat a i) (zat b i)
def ldist (a b : List Int) : Int := (dsts a b).sum
def Ok32 (l : List Int) : Prop := ∀ x ∈ l, -2147483648 ≤ x ∧ x ≤ 2147483647
theorem zat_bd {l : List Int} (h : Ok32 l) (i : Nat) : -2147483648 ≤ zat l i ∧ zat l i ≤ 2147483647 := by
  unfold zat
  cases e : l[i]? with
  | none => simp
  | some x => exact h x (List.mem_of_getElem? e)
theorem dsts_len (a b : List Int) : (dsts a b).length = max a.length b.length := by simp [dsts]
theorem dsts_get {a b : List Int} {k : Nat} (hk : k < max a.length b.length) : (dsts a b)[k]? = some (aprt (zat a k) (zat b k)) := by
  unfold dsts
  rw [List.getElem?_map, List.getElem?_range hk]; rfl
theorem dsts_bd {a b : List Int} (ha : Ok32 a) (hb : Ok32 b) : ∀ x ∈ dsts a b, 0 ≤ x ∧ x ≤ 4294967295 := by
  intro x hx
  obtain ⟨i, _, rfl⟩ := List.mem_map.1 hx
  have h1 := zat_bd ha i
  have h2 := zat_bd hb i
  unfold aprt; split <;> omega
theorem sum_bd {l : List Int} {m : Int} (h : ∀ x ∈ l, 0 ≤ x ∧ x ≤ m) : 0 ≤ l.sum ∧ l.sum ≤ l.length * m := by
  induction l with
  | nil => simp
  | cons x l ih =>
    have h1 := h x (by simp)
    have h2 := ih fun y hy => h y (by simp [hy])
    simp only [List.sum_cons, List.length_cons]
    constructor
    · omega
    · have : ((l.length + 1 : Nat) : Int) * m = l.length * m + m := by rw [Int.natCast_add, Int.add_mul]; simp
      omega
theorem pre_sum {l pre : List Int} (h : ∀ x ∈ l, 0 ≤ x ∧ x ≤ 4294967295) (hp : pre <+: l) (hl : l.length ≤ 1048576) : 0 ≤ pre.sum ∧ pre.sum ≤ 4503599627370496 := by
  have h1 := sum_bd (l := pre) (m := 4294967295) fun x hx => h x (hp.subset hx)
  have h2 := hp.length_le
  have : (pre.length : Int) * 4294967295 ≤ 1048576 * 4294967295 := Int.mul_le_mul_of_nonneg_right (by omega) (by omega)
  omega
theorem pre_le {l pre : List Int} (h : ∀ x ∈ l, 0 ≤ x ∧ x ≤ 4294967295) (hp : pre <+: l) : pre.sum ≤ l.sum := by
  obtain ⟨t, rfl⟩ := hp
  have := (sum_bd (l := t) (m := 4294967295) fun x hx => h x (by simp [hx])).1
  rw [List.sum_append]; omega

theorem lone_apart {x y : Int} {h : Hp} {K : Int → Hp → Prop} (hx : -2147483648 ≤ x ∧ x ≤ 2147483647) (hy : -2147483648 ≤ y ∧ y ≤ 2147483647) (hk : K (aprt x y) h) : C_lone_apart x y h K := by
  refine F_lone_apart_ok _ _ _ _ ?_
  unfold F_lone_apart
  simp only [Let_eq]
  rw [wrap_i64 (x := x) (by omega) (by omega), wrap_i64 (x := y) (by omega) (by omega), wrap_i64 (x := x - y) (by omega) (by omega), wrap_i64 (by omega) (by omega)]
  refine at_val hk ?_
  unfold aprt
  (repeat' split) <;> omega
theorem lone_at {s : Sl} {l : List Int} {i : Int} {h : Hp} {K : Int → Hp → Prop} (r : R32 h s l) (h0 : 0 ≤ i) (hk : K (zat l i.toNat) h) : C_lone_at s i h K := by
  refine F_lone_at_ok _ _ _ _ (cnd_dec.2 ⟨fun hi => ?_, fun hi => ?_⟩)
  · rw [r.len] at hi
    have hx : l[i.toNat]? = some l[i.toNat] := List.getElem?_eq_getElem (by omega)
    refine ld_int0 r h0 hx ?_
    unfold zat at hk; rw [hx] at hk; exact hk
  · rw [r.len] at hi
    unfold zat at hk
    rw [List.getElem?_eq_none (by omega)] at hk; exact hk

theorem take_snoc {α : Type} {l : List α} {k : Nat} {x : α} (h : l[k]? = some x) : l.take k ++ [x] = l.take (k + 1) := by
  rw [List.take_add_one, h]; rfl
/-- What goes through the distances leans on its two slices. -/
def PRd (ba bb : Nat) (sa sb : Sl) (la lb : List Int) (h : Hp) : Prop := Blk h ba #[.slice sa.a sa.len sa.cap] ∧ Blk h bb #[.slice sb.a sb.len sb.cap] ∧ R32 h sa la ∧ R32 h sb lb
theorem PRd.stp {ba bb : Nat} {sa sb : Sl} {la lb : List Int} {h h' : Hp} {B : Nat} (r : PRd ba bb sa sb la lb h) (s : Stp B h h') : PRd ba bb sa sb la lb h' :=
  ⟨r.1.stp s, r.2.1.stp s, r.2.2.1.stp s, r.2.2.2.stp s⟩
theorem PRd.ext {ba bb : Nat} {sa sb : Sl} {la lb : List Int} {h h' : Hp} (r : PRd ba bb sa sb la lb h) (s : Ext h h') : PRd ba bb sa sb la lb h' :=
  ⟨r.1.ext s, r.2.1.ext s, r.2.2.1.ext s, r.2.2.2.ext s⟩

theorem places_1 {ba bb : Nat} {sa sb : Sl} {la lb : List Int} (oka : Ok32 la) (okb : Ok32 lb) (hla : la.length ≤ 1048576) (hlb : lb.length ≤ 1048576) (yv : Value) (J Jx : List Int → Hp → Prop) (h : Hp)
    (hRd : ∀ pre h1, J pre h1 → PRd ba bb sa sb la lb h1)
    (hround : ∀ pre x h1, (pre ++ [x]) <+: dsts la lb → J pre h1 → callV Try.prog yv [.int .i64 x] [.at .bool] h1 fun r h2 => (r.1 = true ∧ J (pre ++ [x]) h2) ∨ (r.1 = false ∧ Jx (pre ++ [x]) h2)) (h0 : J [] h) :
    C_lone_places_1 yv (some ⟨ba, 0, none⟩) (some ⟨bb, 0, none⟩) h fun h2 => J (dsts la lb) h2 ∨ ∃ pre, pre <+: dsts la lb ∧ Jx pre h2 := by
  refine F_lone_places_1_ok _ _ _ _ _ ?_
  obtain ⟨r1, r2, r3, r4⟩ := hRd _ _ h0
  unfold F_lone_places_1
  simp only [someA_some, Let_eq]
  refine ldA_blk (x := sa) r1 rfl (ldA_blk (x := sb) r2 rfl ?_)
  have hm : (if (sb.len : Int) > (sa.len : Int) then (sb.len : Int) else (sa.len : Int)) = ((max la.length lb.length : Nat) : Int) := by rw [r3.len, r4.len]; split <;> omega
  rw [hm]
  refine Lp.inv (fun s => ∃ k : Nat, s.1.1 = (k : Int) ∧ k ≤ max la.length lb.length ∧ J ((dsts la lb).take k) s.2) (fun s => max la.length lb.length - s.1.1.toNat) ?_ ⟨0, rfl, by omega, by simpa using h0⟩
  rintro ⟨⟨i, ⟨⟩⟩, h1⟩ R ⟨k, rfl, hk, hj⟩ hR
  unfold L1_lone_places_1
  simp only
  refine cnd_dec.2 ⟨fun hlt => ?_, fun hge => ?_⟩
  · have hkl : k < max la.length lb.length := by omega
    obtain ⟨r1, r2, r3, r4⟩ := hRd _ _ hj
    simp only [someA_some, Let_eq]
    refine ldA_blk (x := sa) r1 rfl (lone_at r3 (by omega) ⟨Ext.refl _, ldA_blk (x := sb) r2 rfl (lone_at r4 (by omega) (lone_apart (zat_bd oka _) (zat_bd okb _) ?_))⟩)
    have hx := dsts_get (a := la) (b := lb) hkl
    have hs := take_snoc hx
    refine (hround _ _ h1 (by rw [Int.toNat_natCast, hs]; exact List.take_prefix _ _) hj).mono ?_
    rintro ⟨r, ⟨⟩⟩ h2 (⟨e, hj2⟩ | ⟨e, hj2⟩)
    · simp only at e
      subst e
      refine cnd_not.2 ?_
      show R _
      rw [wrap_i64 (by omega) (by omega)]
      refine hR _ ⟨k + 1, by simp, by omega, ?_⟩ (by simp only; omega)
      rw [Int.toNat_natCast, hs] at hj2; exact hj2
    · simp only at e
      subst e
      exact cnd_not.2 (.inr ⟨_, by rw [Int.toNat_natCast, hs]; exact List.take_prefix _ _, hj2⟩)
  · refine .inl ?_
    have : k = max la.length lb.length := by omega
    subst this
    rw [← dsts_len, List.take_length] at hj; exact hj

theorem lone_places {sa sb : Sl} {la lb : List Int} {h : Hp} {K : Value → Hp → Prop} (oka : Ok32 la) (okb : Ok32 lb) (hla : la.length ≤ 1048576) (hlb : lb.length ≤ 1048576) (ra : R32 h sa la) (rb : R32 h sb lb)
    (hk : ∀ v h' ba bb, IterOf Try.prog v (.at (.int .i64)) (PRd ba bb sa sb la lb) (dsts la lb) → Ext h h' → PRd ba bb sa sb la lb h' → h.size ≤ ba → h.size ≤ bb → K v h') : C_lone_places sa sb h K := by
  refine F_lone_places_ok _ _ _ _ (push_to fun h1 b1 e1 z1 => let_to (push_to fun h2 b2 e2 z2 => let_to ?_))
  refine hk _ _ h.size h1.size ⟨_, _, rfl, by kernel_rfl, fun yv J Jx h1 hJ hJx hRd hround h0 => ?_⟩ (e1.trans e2) ⟨b1.ext e2, b2, ra.ext (e1.trans e2), rb.ext (e1.trans e2)⟩ (Nat.le_refl _) (by omega)
  exact places_1 oka okb hla hlb yv J Jx h1 hRd hround h0

theorem lone_Dist {sa sb : Sl} {la lb : List Int} {h : Hp} {K : Int → Hp → Prop} (oka : Ok32 la) (okb : Ok32 lb) (hla : la.length ≤ 1048576) (hlb : lb.length ≤ 1048576) (ra : R32 h sa la) (rb : R32 h sb lb)
    (hk : ∀ h', Ext h h' → K (ldist la lb) h') : C_lone_Dist sa sb h K := by
  refine F_lone_Dist_ok _ _ _ _ (push_to fun h0 b0 e0 z0 => let_to ⟨rfl, set_to b0 (by simp) fun h1 b1 o1 _ z1 => ?_⟩)
  have e1 : Ext h h1 := e0.only_new o1 (Nat.le_refl _)
  refine lone_places oka okb hla hlb (ra.ext e1) (rb.ext e1) fun v h2 ba bb it e2 rd hba hbb => ?_
  have hsz2 := e2.size
  have bd := dsts_bd oka okb
  have hl : (dsts la lb).length ≤ 1048576 := by rw [dsts_len]; omega
  refine rngF_of it (fun pre h' => Blk h' h.size #[.int .i64 pre.sum] ∧ PRd ba bb sa sb la lb h' ∧ Ext h h') (fun _ _ _ => False) ?_ ?_ (fun _ _ hj => hj.2.1) ⟨b1.ext e2, rd, e1.trans e2⟩ ?_ ?_ (fun _ _ _ _ hf => hf.elim)
  · exact fun pre h3 h4 ⟨j1, j2, j3⟩ st => ⟨j1.stp st, j2.stp st, st.ext j3 (by omega)⟩
  · exact fun _ _ _ _ hf _ => hf
  · intro pre x h3 hp ⟨j1, j2, j3⟩
    have hps := pre_sum bd hp hl
    have hps0 := pre_sum bd ((List.prefix_append pre [x]).trans hp) hl
    refine ⟨RKeep.refl _, fun h4 st => ldA_blk (s := .int .i64) (x := pre.sum) (j1.stp st) rfl (let_to ⟨rfl, set_to (j1.stp st) (by simp) fun h5 b5 o5 k5 z5 => ⟨k5, ?_⟩⟩)⟩
    rw [List.sum_append] at hps ⊢
    simp at hps
    rw [wrap_i64 (by omega) (by omega)] at b5
    obtain ⟨q1, q2, q3, q4⟩ := j2.stp st
    have ex : Ext h h5 := (st.ext j3 (by omega)).only_new o5 (Nat.le_refl _)
    exact ⟨by simpa using b5, ⟨q1.only o5 (by omega), q2.only o5 (by omega), ra.ext ex, rb.ext ex⟩, ex⟩
  · intro h3 ⟨j1, j2, j3⟩
    exact ldA_blk (s := .int .i64) (x := (dsts la lb).sum) j1 rfl fun h4 st => hk _ (st.ext j3 (Nat.le_refl _))
theorem ldist_bd {la lb : List Int} (oka : Ok32 la) (okb : Ok32 lb) (hla : la.length ≤ 1048576) (hlb : lb.length ≤ 1048576) : 0 ≤ ldist la lb ∧ ldist la lb ≤ 4503599627370496 :=
  pre_sum (dsts_bd oka okb) (List.prefix_refl _) (by rw [dsts_len]; omega)
theorem ok_nil : Ok32 [] := fun x hx => by cases hx
def padl (l : List Int) (n : Nat) : List Int := l ++ List.replicate (n - l.length) 0
theorem padl_len (l : List Int) (n : Nat) : (padl l n).length = max l.length n := by simp [padl]; omega
theorem padl_get (l : List Int) {n i : Nat} (hi : i < max l.length n) : (padl l n)[i]? = some (zat l i) := by
  unfold padl zat
  by_cases h : i < l.length
  · rw [List.getElem?_append_left h, List.getElem?_eq_getElem h]; rfl
  · rw [List.getElem?_append_right (by omega), List.getElem?_replicate, if_pos (by omega), List.getElem?_eq_none (by omega)]; rfl

end Go.Proofs.YtibaekemfefoaaaF

