/- Chapter 45, ReportShape: what the functions answer. No condition. -/
import Derived.Test.YtaakopekdpopnaaF
import Derived.Test.YtaakopekdpopnaaK13
namespace Go.Proofs.YtaakopekdpopnaaF
open Go Go.Proofs.YtaakopekdpopnaaK
set_option linter.unusedSimpArgs false
set_option linter.unusedVariables false

abbrev R64 := IsRow (encI .i64) 1
/-- How deep a node stands. -/
def dep (l : List Int) (i : Nat) : Nat :=
  match l[i]? with
  | none => 1
  | some p => if h : 0 ≤ p ∧ p < (i : Int) then dep l p.toNat + 1 else 1
termination_by i
decreasing_by omega
theorem dep_up {l : List Int} {i : Nat} {p : Int} (hx : l[i]? = some p) (h : 0 ≤ p ∧ p < (i : Int)) : dep l i = dep l p.toNat + 1 := by
  rw [dep, hx]; simp only; rw [dif_pos h]
theorem dep_top {l : List Int} {i : Nat} {p : Int} (hx : l[i]? = some p) (h : ¬ (0 ≤ p ∧ p < (i : Int))) : dep l i = 1 := by
  rw [dep, hx]; simp only; rw [dif_neg h]
theorem dep_le (l : List Int) : ∀ i, 1 ≤ dep l i ∧ dep l i ≤ i + 1 := by
  intro i
  induction i using Nat.strongRecOn with
  | _ i ih =>
    cases hx : l[i]? with
    | none => rw [dep, hx]; simp
    | some p =>
      by_cases h : 0 ≤ p ∧ p < (i : Int)
      · rw [dep_up hx h]; have := ih p.toNat (by omega); omega
      · rw [dep_top hx h]; omega
/-- The deepest of the first k. -/
def mxd (l : List Int) : Nat → Int
  | 0 => 0
  | k + 1 => max (mxd l k) (dep l k)
theorem mxd_bd (l : List Int) : ∀ k, 0 ≤ mxd l k ∧ mxd l k ≤ k
  | 0 => by simp [mxd]
  | k + 1 => by
    have h1 := mxd_bd l k
    have h2 := dep_le l k
    simp only [mxd]; omega
def atRow (l : List Int) (n k : Nat) : List Int := (List.range n).map fun j => if j < k then (dep l j : Int) else 0
theorem atRow_set {l : List Int} {n k : Nat} (hk : k < n) : (atRow l n k).set k (dep l k) = atRow l n (k + 1) := by
  apply List.ext_getElem?
  intro j
  rw [List.getElem?_set]
  unfold atRow
  simp only [List.length_map, List.length_range, List.getElem?_map]
  by_cases e : k = j
  · subst e
    rw [if_pos rfl, if_pos hk, List.getElem?_range hk]; simp
  · rw [if_neg e]
    by_cases hj : j < n
    · rw [List.getElem?_range hj]
      simp only [Option.map_some, Option.some.injEq]
      by_cases h1 : j < k
      · rw [if_pos h1, if_pos (by omega)]
      · rw [if_neg h1, if_neg (by omega)]
    · rw [List.getElem?_eq_none (by simpa using hj)]; rfl
theorem atRow_get {l : List Int} {n k j : Nat} (hj : j < n) : (atRow l n k)[j]? = some (if j < k then (dep l j : Int) else 0) := by
  unfold atRow; rw [List.getElem?_map, List.getElem?_range hj]; rfl
theorem atRow_zero (l : List Int) (n : Nat) : atRow l n 0 = List.replicate n 0 := by
  unfold atRow
  apply List.ext_getElem?
  intro j
  simp only [List.getElem?_map, List.getElem?_replicate]
  by_cases hj : j < n
  · rw [List.getElem?_range hj, if_pos hj]; rfl
  · rw [List.getElem?_eq_none (by simpa using hj), if_neg hj]; rfl

theorem r_deep {s : Sl} {l : List Int} {h : Hp} {K : Int → Hp → Prop} (r : R64 h s l) (hl : l.length * 8 ≤ 140737488355328) (hk : ∀ h', Ext h h' → K (mxd l l.length) h') : C_report_deep s h K := by
  refine F_report_deep_ok _ _ _ ?_
  unfold F_report_deep
  refine mk_row (encI_ok .i64) (0 : Int) rfl (l := (s.len : Int)) (c := (s.len : Int)) (n := l.length) (k := l.length) (by rw [r.len]) (by rw [r.len]) (Nat.le_refl _) ⟨by omega, hl⟩ fun s1 h1 o1 e1 hs1 _ => ?_
  refine Lp.inv (fun st => ∃ k : Nat, st.1.2.1 = (k : Int) ∧ k ≤ l.length ∧ st.1.1 = mxd l k ∧ OwnRow (encI .i64) 1 h.size st.2 s1 (atRow l l.length k) ∧ Ext h st.2) (fun st => l.length - st.1.2.1.toNat) ?_ ⟨0, rfl, by omega, rfl, by rw [atRow_zero]; exact o1, e1⟩
  rintro ⟨⟨m, i, ⟨⟩⟩, h2⟩ R ⟨k, rfl, hk2, hm, o2, e2⟩ hR
  simp only at hm o2 e2 hk2
  subst hm
  refine cnd_dec.2 ⟨fun hlt => ?_, fun hge => ?_⟩
  · simp only [r.len] at hlt
    have hkl : k < l.length := by omega
    have hx : l[k]? = some l[k] := List.getElem?_eq_getElem hkl
    have hb := mxd_bd l k
    have hlen : (atRow l l.length k).length = l.length := by simp [atRow]
    refine ld_int0 (i := (k : Int)) (x := l[k]) (r.ext e2) (by omega) (by rw [Int.toNat_natCast]; exact hx) ?_
    refine own_set (encI_ok _) o2 rfl (by omega) (x := (1 : Int)) rfl fun h3 o3 os3 _ z3 => ?_
    have e3 : Ext h h3 := (e2.bel.trans (os3.bel_of o2 e2.size)).ext
    rw [Jn_eq, Jn_eq]
    -- the end of a round
    have go1 : ∀ h4, OwnRow (encI .i64) 1 h.size h4 s1 (atRow l l.length (k + 1)) → Ext h h4 → J1_report_deep s1 ((mxd l k, (k : Int), ()), h2) R () h4 := by
      intro h4 o4 e4
      unfold J1_report_deep
      dsimp only
      refine ld_int0 (i := (k : Int)) (x := (dep l k : Int)) o4.row (by omega) (by rw [Int.toNat_natCast, atRow_get hkl, if_pos (by omega)]) (let_to (let_to ?_))
      rw [wrap_i64 (by omega) (by omega)]
      refine hR _ ⟨k + 1, by simp, by omega, ?_, o4, e4⟩ (by simp only; omega)
      simp only [mxd]
      split <;> omega
    have go2 : ∀ t : Bool, t = decide (0 ≤ l[k] ∧ l[k] < (k : Int)) → J2_report_deep s1 ((mxd l k, (k : Int), ()), h2) l[k] (J1_report_deep s1 ((mxd l k, (k : Int), ()), h2) R) (t, ()) h3 := by
      intro t ht
      unfold J2_report_deep
      dsimp only
      refine cnd_if (fun hc => ?_) fun hc => ?_
      · rw [hc] at ht
        have hp : 0 ≤ l[k] ∧ l[k] < (k : Int) := of_decide_eq_true ht.symm
        have hd := dep_le l l[k].toNat
        have hg : ((atRow l l.length k).set k 1)[l[k].toNat]? = some (dep l l[k].toNat : Int) := by
          rw [List.getElem?_set_ne (by omega), atRow_get (by omega), if_pos (by omega)]
        refine ld_int0 (i := l[k]) (x := (dep l l[k].toNat : Int)) o3.row (by omega) hg (let_to ?_)
        rw [wrap_i64 (by omega) (by omega)]
        refine own_set (encI_ok _) o3 rfl (by rw [List.length_set]; omega) (x := (dep l l[k].toNat : Int) + 1) rfl fun h4 o4 os4 _ z4 => go1 h4 ?_ ((e3.bel.trans (os4.bel_of o3 e3.size)).ext)
        rw [List.set_set, show (dep l l[k].toNat : Int) + 1 = ((dep l k : Nat) : Int) by rw [dep_up hx hp]; simp, atRow_set hkl] at o4
        exact o4
      · rw [hc] at ht
        have hp : ¬ (0 ≤ l[k] ∧ l[k] < (k : Int)) := of_decide_eq_false ht.symm
        refine go1 h3 ?_ e3
        rw [show (1 : Int) = ((dep l k : Nat) : Int) by rw [dep_top hx hp]; simp, atRow_set hkl] at o3
        exact o3
    refine cnd_dec.2 ⟨fun h0 => go2 _ (decide_eq_decide.2 ⟨fun h => ⟨h0, h⟩, fun h => h.2⟩), fun h0 => go2 false (by symm; rw [decide_eq_false_iff_not]; omega)⟩
  · simp only [r.len] at hge
    have : k = l.length := by omega
    subst this
    exact hk _ e2

/-! The image's lists. -/
abbrev BK : List At := [.int .u64, .int .i64, .sl, .str, .bool, .int .i64, .int .i64]
abbrev VP : List At := [.bool, .sl, .int .u64, .int .i64, .sl, .str, .bool, .int .i64, .int .i64, .int .i64, .int .i64, .int .i64, .int .i64, .int .i64]
abbrev MN : List At := [.bool, .int .i64, .sl]
def bkPar (x : StA BK) : Int := x.2.2.2.2.2.1
def bkGone (x : StA BK) : Bool := x.2.2.2.2.1
def vpPar (x : StA VP) : Int := x.2.2.2.2.2.2.2.1
def vpGone (x : StA VP) : Bool := x.2.2.2.2.2.2.1
def mnPar (x : StA MN) : Int := x.2.1
def cnt {α : Type} (f : α → Bool) : List α → Nat
  | [] => 0
  | x :: l => cnt f l + if f x then 1 else 0
theorem cnt_snoc {α : Type} (f : α → Bool) (l : List α) (x : α) : cnt f (l ++ [x]) = cnt f l + if f x then 1 else 0 := by
  induction l with
  | nil => simp [cnt]
  | cons y l ih => simp only [List.cons_append, cnt, ih]; omega
theorem cnt_le {α : Type} (f : α → Bool) (l : List α) : cnt f l ≤ l.length := by
  induction l with
  | nil => simp [cnt]
  | cons x l ih => simp only [cnt, List.length_cons]; split <;> omega
theorem take_snoc {α : Type} {l : List α} {k : Nat} {x : α} (h : l[k]? = some x) : l.take k ++ [x] = l.take (k + 1) := by
  rw [List.take_add_one, h]; rfl

/-- The boxes of report.Shape: the image, the result, the numbers. -/
structure Bx (h : Hp) (a b c d e f : Value) (n g p q : Int) (hs b0 b1 b2 : Nat) : Prop where
  img : Blk h b0 #[a, b, c, d, e, f]
  res : Blk h b1 #[.int .i64 0, .int .i64 0, .int .i64 0, .int .i64 0, .int .i64 0]
  out : Blk h b2 #[.int .i64 n, .int .i64 0, .int .i64 g, .int .i64 p, .int .i64 q]
theorem Bx.ext {h h' : Hp} {a b c d e f : Value} {n g p q : Int} {b0 b1 b2 hs : Nat} (r : Bx h a b c d e f n g p q hs b0 b1 b2) (x : Ext h h') : Bx h' a b c d e f n g p q hs b0 b1 b2 := ⟨r.img.ext x, r.res.ext x, r.out.ext x⟩
theorem Bx.bel {h h' : Hp} {a b c d e f : Value} {n g p q : Int} {b0 b1 b2 hs B : Nat} (r : Bx h a b c d e f n g p q hs b0 b1 b2) (x : Bel B h h') (h0 : b0 < B) (h1 : b1 < B) (h2 : b2 < B) : Bx h' a b c d e f n g p q hs b0 b1 b2 := ⟨r.img.bel x h0, r.res.bel x h1, r.out.bel x h2⟩
theorem encI64 : Enc (encI .i64) 1 := encI_ok _

abbrev BX (h : Hp) (sb sv sm sp sr : Sl) (d : Int) (N g : Int) (b0 b1 b2 : Nat) : Prop :=
  Bx h (.slice sb.a sb.len sb.cap) (.slice sv.a sv.len sv.cap) (.slice sm.a sm.len sm.cap) (.int .i64 d) (.slice sp.a sp.len sp.cap) (.slice sr.a sr.len sr.cap) N g sp.len sr.len 0 b0 b1 b2
theorem shape_J3 {sb sv sm sp sr s1 s2 s3 : Sl} {d N g : Int} {l1 l2 l3 : List Int} {h h0 : Hp} {b0 b1 b2 : Nat} {K : Int → Int → Int → Int → Int → Hp → Prop} (bx : BX h sb sv sm sp sr d N g b0 b1 b2) (f : Ext h0 h) (hb0 : h0.size ≤ b0) (hb1 : b0 < b1) (hb2 : b1 < b2)
    (r1 : R64 h s1 l1) (r2 : R64 h s2 l2) (r3 : R64 h s3 l3) (h1 : l1.length * 8 ≤ 140737488355328) (h2 : l2.length * 8 ≤ 140737488355328) (h3 : l3.length * 8 ≤ 140737488355328)
    (hk : ∀ h', Ext h0 h' → K N (max (max (mxd l1 l1.length) (mxd l2 l2.length)) (mxd l3 l3.length)) g sp.len sr.len h') :
    J3_report_Shape K ⟨b1, 0, none⟩ ⟨b2, 0, none⟩ (s1, ()) (s2, ()) (s3, ()) h := by
  unfold J3_report_Shape
  refine r_deep r1 h1 fun g1 e1 => r_deep (r2.ext e1) h2 fun g2 e2 => r_deep ((r3.ext e1).ext e2) h3 fun g3 e3 => let_to (let_to ?_)
  have x3 := e1.trans (e2.trans e3)
  have bx3 := bx.ext x3
  have em : (if mxd l3 l3.length > (if mxd l2 l2.length > mxd l1 l1.length then mxd l2 l2.length else mxd l1 l1.length) then mxd l3 l3.length else (if mxd l2 l2.length > mxd l1 l1.length then mxd l2 l2.length else mxd l1 l1.length)) = max (max (mxd l1 l1.length) (mxd l2 l2.length)) (mxd l3 l3.length) := by
    (repeat' split) <;> omega
  rw [em]
  generalize max (max (mxd l1 l1.length) (mxd l2 l2.length)) (mxd l3 l3.length) = M at hk
  refine ⟨rfl, set_to bx3.out (i := 1) (by simp) fun g4 w4 o4 _ z4 => ?_⟩
  simp only [List.setIfInBounds_toArray, List.set_cons_succ, List.set_cons_zero] at w4
  refine ldA_blk (s := .int .i64) (x := N) w4 rfl (ldA_blk (s := .int .i64) (i := 1) (x := M) w4 rfl (ldA_blk (s := .int .i64) (i := 2) (x := g) w4 rfl (ldA_blk (s := .int .i64) (i := 3) (x := (sp.len : Int)) w4 rfl (ldA_blk (s := .int .i64) (i := 4) (x := (sr.len : Int)) w4 rfl ?_))))
  refine stores_blk (vs := [.int .i64 N, .int .i64 M, .int .i64 g, .int .i64 sp.len, .int .i64 sr.len]) (bx3.res.only o4 (by omega)) rfl fun g5 w5 o5 _ z5 => ?_
  simp only [List.take_zero, List.nil_append] at w5
  refine ldA_blk (s := .int .i64) (x := N) w5 rfl (ldA_blk (s := .int .i64) (i := 1) (x := M) w5 rfl (ldA_blk (s := .int .i64) (i := 2) (x := g) w5 rfl (ldA_blk (s := .int .i64) (i := 3) (x := (sp.len : Int)) w5 rfl (ldA_blk (s := .int .i64) (i := 4) (x := (sr.len : Int)) w5 rfl ?_))))
  exact hk _ (((f.trans x3).only_new o4 (by omega)).only_new o5 (by omega))
theorem shape_J2 {sb sv sm sp sr s1 s2 : Sl} {d N g : Int} {l1 l2 : List Int} {mn : List (StA MN)} {h h0 : Hp} {b0 b1 b2 : Nat} {K : Int → Int → Int → Int → Int → Hp → Prop} (bx : BX h sb sv sm sp sr d N g b0 b1 b2) (f : Ext h0 h) (hb0 : h0.size ≤ b0) (hb1 : b0 < b1) (hb2 : b1 < b2)
    (rm : IsRow (vsA MN) 3 h0 sm mn) (hm : mn.length * 8 ≤ 140737488355328)
    (r1 : R64 h s1 l1) (r2 : R64 h s2 l2) (t1 : ∀ a, s1.a = some a → a.block < h.size) (t2 : ∀ a, s2.a = some a → a.block < h.size) (h1 : l1.length * 8 ≤ 140737488355328) (h2 : l2.length * 8 ≤ 140737488355328)
    (hk : ∀ h', Ext h0 h' → K N (max (max (mxd l1 l1.length) (mxd l2 l2.length)) (mxd (mn.map mnPar) mn.length)) g sp.len sr.len h') :
    J2_report_Shape K ⟨b0, 0, none⟩ ⟨b1, 0, none⟩ ⟨b2, 0, none⟩ (s1, ()) (s2, ()) h := by
  have hlt2 := bx.out.lt
  unfold J2_report_Shape
  rw [Jn_eq]
  refine ldA_blk (s := .sl) (i := 2) (x := sm) bx.img rfl ?_
  refine Lp.inv (fun st => ∃ k : Nat, st.1.2.1 = (k : Int) ∧ k ≤ mn.length ∧ OwnRow (encI .i64) 1 h.size st.2 st.1.1 ((mn.take k).map mnPar) ∧ Bel h.size h st.2 ∧ Ext h0 st.2)
    (fun st => mn.length - st.1.2.1.toNat) ?_ ⟨0, rfl, by omega, by simpa using OwnRow.nil _ _ _ _, Bel.refl _ _, f⟩
  rintro ⟨⟨s3, i, ⟨⟩⟩, g1⟩ R ⟨k, rfl, hk1, o1, be1, f1⟩ hR
  simp only at o1 be1 f1 hk1
  have hsz := be1.size
  unfold L1_report_Shape
  dsimp only
  refine cnd_dec.2 ⟨fun hlt => ?_, fun hge => ?_⟩
  · rw [rm.len] at hlt
    have hkl : k < mn.length := by omega
    have hx : mn[k]? = some mn[k] := List.getElem?_eq_getElem hkl
    have htk := take_snoc hx
    refine ld_row (i := (k : Int)) (x := mn[k]) (rm.ext f1) (by omega) (by rw [Int.toNat_natCast]; exact hx) fun a ha hc => ?_
    refine ldA_row0 hc rfl (ldA_row hc rfl (ldA_row hc rfl ?_))
    refine box_to (vsA MN mn[k]) rfl fun g2 w2 u2 y2 => ldA_blk (s := .int .i64) (i := 1) (x := mnPar mn[k]) w2 rfl ?_
    refine app1 encI64 (by omega) (o1.ext u2) (by omega) (by simp; omega) (by simp) rfl (mnPar mn[k]) rfl fun s4 g3 o3 os3 bl3 _ => let_to ?_
    rw [← List.map_singleton, ← List.map_append, htk] at o3
    rw [wrap_i64 (by omega) (by omega)]
    exact hR _ ⟨k + 1, by simp, by omega, o3, be1.trans ((u2.belOf hsz).trans bl3), ((f1.trans u2).bel.trans (bl3.mono (by have := f.size; have := f1.size; omega))).ext⟩ (by simp only; omega)
  · rw [rm.len] at hge
    have : k = mn.length := by omega
    subst this
    rw [List.take_length] at o1
    refine shape_J3 (bx.bel be1 (by omega) (by omega) (by omega)) f1 hb0 hb1 hb2 (r1.bel t1 be1) (r2.bel t2 be1) o1.row h1 h2 (by simpa using hm) ?_
    simpa using hk
theorem shape_J1 {sb sv sm sp sr s1 : Sl} {d N g : Int} {l1 : List Int} {vp : List (StA VP)} {mn : List (StA MN)} {h h0 : Hp} {b0 b1 b2 : Nat} {K : Int → Int → Int → Int → Int → Hp → Prop} (bx : BX h sb sv sm sp sr d N g b0 b1 b2) (f : Ext h0 h) (hb0 : h0.size ≤ b0) (hb1 : b0 < b1) (hb2 : b1 < b2)
    (rv : IsRow (vsA VP) 14 h0 sv vp) (rm : IsRow (vsA MN) 3 h0 sm mn) (hv : vp.length * 8 ≤ 140737488355328) (hm : mn.length * 8 ≤ 140737488355328) (hg : 0 ≤ g ∧ g ≤ 140737488355328)
    (r1 : R64 h s1 l1) (t1 : ∀ a, s1.a = some a → a.block < h.size ∧ a.block ≠ b2) (h1 : l1.length * 8 ≤ 140737488355328)
    (hk : ∀ h', Ext h0 h' → K N (max (max (mxd l1 l1.length) (mxd (vp.map vpPar) vp.length)) (mxd (mn.map mnPar) mn.length)) (g + cnt vpGone vp) sp.len sr.len h') :
    J1_report_Shape K ⟨b0, 0, none⟩ ⟨b1, 0, none⟩ ⟨b2, 0, none⟩ (s1, ()) h := by
  have hlt2 := bx.out.lt
  unfold J1_report_Shape
  rw [Jn_eq]
  refine ldA_blk (s := .sl) (i := 1) (x := sv) bx.img rfl ?_
  refine Lp.inv (fun st => ∃ k : Nat, st.1.2.1 = (k : Int) ∧ k ≤ vp.length ∧ OwnRow (encI .i64) 1 h.size st.2 st.1.1 ((vp.take k).map vpPar) ∧ BX st.2 sb sv sm sp sr d N (g + cnt vpGone (vp.take k)) b0 b1 b2 ∧ R64 st.2 s1 l1 ∧ Ext h0 st.2 ∧ h.size ≤ st.2.size)
    (fun st => vp.length - st.1.2.1.toNat) ?_ ⟨0, rfl, by omega, by simpa using OwnRow.nil _ _ _ _, by simpa [cnt] using bx, r1, f, Nat.le_refl _⟩
  rintro ⟨⟨s2, i, ⟨⟩⟩, g1⟩ R ⟨k, rfl, hk1, o1, bx1, q1, f1, sz1⟩ hR
  simp only at o1 bx1 q1 f1 hk1 sz1
  unfold L2_report_Shape
  dsimp only
  refine cnd_dec.2 ⟨fun hlt => ?_, fun hge => ?_⟩
  · rw [rv.len] at hlt
    have hkl : k < vp.length := by omega
    have hx : vp[k]? = some vp[k] := List.getElem?_eq_getElem hkl
    have hcg := cnt_le vpGone (vp.take k)
    rw [List.length_take] at hcg
    have htk := take_snoc hx
    refine ld_row (i := (k : Int)) (x := vp[k]) (rv.ext f1) (by omega) (by rw [Int.toNat_natCast]; exact hx) fun a ha hc => ?_
    refine ldA_row0 hc rfl ?_
    iterate 13 refine ldA_row hc rfl ?_
    refine box_to (vsA VP vp[k]) rfl fun g2 w2 u2 y2 => ldA_blk (s := .int .i64) (i := 7) (x := vpPar vp[k]) w2 rfl ?_
    refine app1 encI64 (by omega) (o1.ext u2) (by omega) (by simp; omega) (by simp) rfl (vpPar vp[k]) rfl fun s3 g3 o3 os3 bl3 _ => ?_
    have w3 := w2.onlyS os3 (fun a ha => by have := o1.lt a ha; omega)
    refine ldA_blk (s := .bool) (i := 6) (x := vpGone vp[k]) w3 rfl ?_
    have bx3 := (bx1.ext u2).bel bl3 (by omega) (by omega) (by omega)
    have q3 := (q1.ext u2).bel (fun a ha => (t1 a ha).1) bl3
    have hsz := f.size
    have f3 : Ext h0 g3 := ((f1.trans u2).bel.trans (bl3.mono (by omega))).ext
    rw [← List.map_singleton, ← List.map_append, htk] at o3
    have sz3 := os3.1
    refine cnd_if (fun hg2 => ?_) fun hg2 => ?_
    · refine ldA_blk (s := .int .i64) (i := 2) (x := g + (cnt vpGone (vp.take k) : Int)) bx3.out rfl (let_to ⟨rfl, set_to bx3.out (by simp) fun g4 w4 q4 _ y4 => let_to ?_⟩)
      rw [wrap_i64 (by omega) (by omega)] at w4
      rw [wrap_i64 (by omega) (by omega)]
      refine hR _ ⟨k + 1, by simp, by omega, o3.only q4 (by omega), ⟨bx3.img.only q4 (by omega), bx3.res.only q4 (by omega), ?_⟩, q3.only q4 fun a ha => (t1 a ha).2, f3.only_new q4 (by omega), by simp only; omega⟩ (by simp only; omega)
      rw [← htk, cnt_snoc, if_pos hg2]
      simpa [Int.add_assoc] using w4
    · refine let_to ?_
      rw [wrap_i64 (by omega) (by omega)]
      refine hR _ ⟨k + 1, by simp, by omega, o3, ?_, q3, f3, by simp only; omega⟩ (by simp only; omega)
      rw [← htk, cnt_snoc, if_neg (by rw [hg2]; simp)]
      simpa using bx3
  · rw [rv.len] at hge
    have : k = vp.length := by omega
    subst this
    rw [List.take_length] at o1 bx1
    refine shape_J2 bx1 f1 hb0 hb1 hb2 rm hm q1 o1.row (fun a ha => by have := (t1 a ha).1; omega) o1.lt h1 (by simpa using hv) ?_
    simpa using hk
theorem r_Shape {sb sv sm sp sr : Sl} {d : Int} {bk : List (StA BK)} {vp : List (StA VP)} {mn : List (StA MN)} {h : Hp} {K : Int → Int → Int → Int → Int → Hp → Prop} (rb : IsRow (vsA BK) 7 h sb bk) (rv : IsRow (vsA VP) 14 h sv vp) (rm : IsRow (vsA MN) 3 h sm mn)
    (hb : bk.length * 8 ≤ 140737488355328) (hv : vp.length * 8 ≤ 140737488355328) (hm : mn.length * 8 ≤ 140737488355328)
    (hk : ∀ h', Ext h h' → K (bk.length + vp.length + mn.length) (max (max (mxd (bk.map bkPar) bk.length) (mxd (vp.map vpPar) vp.length)) (mxd (mn.map mnPar) mn.length)) (cnt bkGone bk + cnt vpGone vp) sp.len sr.len h') :
    C_report_Shape sb sv sm d sp sr h K := by
  refine F_report_Shape_ok _ _ _ _ _ _ _ _ (push_to fun h1 b1 e1 z1 => let_to (push_to fun h2 b2 e2 z2 => let_to ?_))
  have c1 := b1.ext e2
  refine ldA_blk (s := .sl) (x := sb) c1 rfl (ldA_blk (s := .sl) (i := 1) (x := sv) c1 rfl (let_to (ldA_blk (s := .sl) (i := 2) (x := sm) c1 rfl (let_to (ldA_blk (s := .sl) (i := 4) (x := sp) c1 rfl (ldA_blk (s := .sl) (i := 5) (x := sr) c1 rfl ?_))))))
  have hn : (sb.len : Int) + sv.len + sm.len = bk.length + vp.length + mn.length := by rw [rb.len, rv.len, rm.len]
  have hlb := rb.len
  have hlv := rv.len
  have hlm := rm.len
  rw [wrap_i64 (x := (sb.len : Int) + sv.len) (by omega) (by omega), wrap_i64 (by omega) (by omega), hn]
  generalize hN : (bk.length : Int) + vp.length + mn.length = N
  refine box_to [.int .i64 N, .int .i64 0, .int .i64 0, .int .i64 sp.len, .int .i64 sr.len] rfl fun h3 b3 e3 z3 => ?_
  have x3 : Ext h h3 := e1.trans (e2.trans e3)
  have bx3 : Bx h3 (.slice sb.a sb.len sb.cap) (.slice sv.a sv.len sv.cap) (.slice sm.a sm.len sm.cap) (.int .i64 d) (.slice sp.a sp.len sp.cap) (.slice sr.a sr.len sr.cap) N 0 sp.len sr.len 0 h.size h1.size h2.size := ⟨c1.ext e3, b2.ext e3, b3⟩
  refine ldA_blk (s := .sl) (x := sb) bx3.img rfl ?_
  refine Lp.inv (fun st => ∃ k : Nat, st.1.2.1 = (k : Int) ∧ k ≤ bk.length ∧ OwnRow (encI .i64) 1 h3.size st.2 st.1.1 ((bk.take k).map bkPar) ∧
    Bx st.2 (.slice sb.a sb.len sb.cap) (.slice sv.a sv.len sv.cap) (.slice sm.a sm.len sm.cap) (.int .i64 d) (.slice sp.a sp.len sp.cap) (.slice sr.a sr.len sr.cap) N (cnt bkGone (bk.take k)) sp.len sr.len 0 h.size h1.size h2.size ∧ Ext h st.2 ∧ h3.size ≤ st.2.size)
    (fun st => bk.length - st.1.2.1.toNat) ?_ ⟨0, rfl, by omega, by simpa using OwnRow.nil _ _ _ _, by simpa [cnt] using bx3, x3, Nat.le_refl _⟩
  rintro ⟨⟨s1, i, ⟨⟩⟩, g1⟩ R ⟨k, rfl, hk1, o1, bx1, f1, sz1⟩ hR
  simp only at o1 bx1 f1 hk1 sz1
  unfold L3_report_Shape
  dsimp only
  refine cnd_dec.2 ⟨fun hlt => ?_, fun hge => ?_⟩
  · rw [rb.len] at hlt
    have hkl : k < bk.length := by omega
    have hx : bk[k]? = some bk[k] := List.getElem?_eq_getElem hkl
    have hcg := cnt_le bkGone (bk.take k)
    rw [List.length_take] at hcg
    have htk := take_snoc hx
    refine ld_row (i := (k : Int)) (x := bk[k]) (rb.ext f1) (by omega) (by rw [Int.toNat_natCast]; exact hx) fun a ha hc => ?_
    refine ldA_row0 hc rfl (ldA_row hc rfl (ldA_row hc rfl (ldA_row hc rfl (ldA_row hc rfl (ldA_row hc rfl (ldA_row hc rfl ?_))))))
    refine box_to (vsA BK bk[k]) rfl fun g2 w2 u2 y2 => ldA_blk (s := .int .i64) (i := 5) (x := bkPar bk[k]) w2 rfl ?_
    refine app1 encI64 (by omega) (o1.ext u2) (by omega) (by simp; omega) (by simp) rfl (bkPar bk[k]) rfl fun s3 g3 o3 os3 bl3 _ => ?_
    have w3 := w2.onlyS os3 (fun a ha => by have := o1.lt a ha; omega)
    refine ldA_blk (s := .bool) (i := 4) (x := bkGone bk[k]) w3 rfl ?_
    have bx3 := (bx1.ext u2).bel bl3 (by omega) (by omega) (by omega)
    have f3 : Ext h g3 := ((f1.trans u2).bel.trans (bl3.mono (by omega))).ext
    rw [← List.map_singleton, ← List.map_append, htk] at o3
    have sz3 := os3.1
    refine cnd_if (fun hg => ?_) fun hg => ?_
    · refine ldA_blk (s := .int .i64) (i := 2) (x := (cnt bkGone (bk.take k) : Int)) bx3.out rfl (let_to ⟨rfl, set_to bx3.out (by simp) fun g4 w4 q4 _ y4 => let_to ?_⟩)
      rw [wrap_i64 (by omega) (by omega)] at w4
      rw [wrap_i64 (by omega) (by omega)]
      refine hR _ ⟨k + 1, by simp, by omega, o3.only q4 (by omega), ⟨bx3.img.only q4 (by omega), bx3.res.only q4 (by omega), ?_⟩, f3.only_new q4 (by omega), by simp only; omega⟩ (by simp only; omega)
      rw [← htk, cnt_snoc, if_pos hg]
      simpa using w4
    · refine let_to ?_
      rw [wrap_i64 (by omega) (by omega)]
      refine hR _ ⟨k + 1, by simp, by omega, o3, ?_, f3, by simp only; omega⟩ (by simp only; omega)
      rw [← htk, cnt_snoc, if_neg (by rw [hg]; simp)]
      simpa using bx3
  · rw [rb.len] at hge
    have : k = bk.length := by omega
    subst this
    rw [List.take_length] at o1 bx1
    have hcb := cnt_le bkGone bk
    subst hN
    exact shape_J1 bx1 f1 (Nat.le_refl _) (by omega) (by omega) rv rm hv hm ⟨by omega, by omega⟩ o1.row (fun a ha => ⟨o1.lt a ha, by have := o1.above a ha; omega⟩) (by simpa using hb) (by simpa using hk)
end Go.Proofs.YtaakopekdpopnaaF
