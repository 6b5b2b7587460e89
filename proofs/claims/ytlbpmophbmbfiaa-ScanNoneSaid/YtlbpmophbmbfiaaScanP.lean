/- Chapter 17: pairs; Short; the document's answers; lives. No condition. -/
import Derived.Test.YtlbpmophbmbfiaaScanW
namespace Go.Proofs.YtlbpmophbmbfiaaF
open Go Go.Proofs.YtlbpmophbmbfiaaK
set_option linter.unusedSimpArgs false
set_option linter.unusedVariables false

theorem add_add' (a : Addr) (i j : Nat) : (a.add i).add j = a.add (i + j) := by
  unfold Addr.add
  by_cases hi : i = 0
  · subst hi; simp
  · rw [if_neg hi]
    by_cases hj : j = 0
    · subst hj; rw [if_pos rfl, if_neg (by omega)]; rfl
    · rw [if_neg hj, if_neg (by omega)]; simp [Nat.add_assoc]
/-! Pairs. -/
abbrev TT : List At := [.int .i64, .int .i64, .int .i64]
theorem encTT : Enc (vsA TT) 3 := encA rfl
def prOf (U : Int → Ob → Ob → Int × Bool) (r : Int) (l : List It) (i k : Nat) : Option (StA TT) :=
  match l[i]?, l[k]? with
  | some x, some y => if (U r x.2 y.2).2 = true then some ((i : Int), (k : Int), (U r x.2 y.2).1, ()) else none
  | _, _ => none
def innerP (U : Int → Ob → Ob → Int × Bool) (r : Int) (l : List It) (i k : Nat) : List (StA TT) := (List.range (k - (i + 1))).filterMap fun j => prOf U r l i (i + 1 + j)
def outerP (U : Int → Ob → Ob → Int × Bool) (r : Int) (l : List It) : Nat → List (StA TT)
  | 0 => []
  | i + 1 => outerP U r l i ++ innerP U r l i l.length
def cntP (n : Nat) : Nat → Int
  | 0 => 0
  | i + 1 => cntP n i + ((n - 1 - i : Nat) : Int)
theorem innerP_nil (U : Int → Ob → Ob → Int × Bool) (r : Int) (l : List It) (i : Nat) : innerP U r l i (i + 1) = [] := by unfold innerP; rw [Nat.sub_self]; rfl
theorem innerP_succ (U : Int → Ob → Ob → Int × Bool) (r : Int) (l : List It) {i k : Nat} (h : i + 1 ≤ k) : innerP U r l i (k + 1) = innerP U r l i k ++ (prOf U r l i k).toList := by
  unfold innerP
  rw [show k + 1 - (i + 1) = (k - (i + 1)) + 1 by omega, List.range_succ, List.filterMap_append]
  congr 1
  simp only [List.filterMap_cons, List.filterMap_nil]
  rw [show i + 1 + (k - (i + 1)) = k by omega]
  cases prOf U r l i k <;> rfl
theorem innerP_pre (U : Int → Ob → Ob → Int × Bool) (r : Int) (l : List It) {i k : Nat} (hi : i + 1 ≤ k) : ∀ j, innerP U r l i k <+: innerP U r l i (k + j)
  | 0 => List.prefix_refl _
  | j + 1 => (innerP_pre U r l hi j).trans (by rw [show k + (j + 1) = (k + j) + 1 by omega, innerP_succ U r l (by omega)]; exact List.prefix_append _ _)
theorem outerP_pre (U : Int → Ob → Ob → Int × Bool) (r : Int) (l : List It) (i : Nat) : ∀ j, outerP U r l i <+: outerP U r l (i + j)
  | 0 => List.prefix_refl _
  | j + 1 => (outerP_pre U r l i j).trans (List.prefix_append _ _)
theorem F_pre (U : Int → Ob → Ob → Int × Bool) (r : Int) (l : List It) {i k : Nat} (hi : i < l.length) (h1 : i + 1 ≤ k) (hk : k ≤ l.length) : outerP U r l i ++ innerP U r l i k <+: outerP U r l l.length := by
  have h2 := innerP_pre U r l h1 (l.length - k)
  rw [show k + (l.length - k) = l.length by omega] at h2
  have h3 := outerP_pre U r l (i + 1) (l.length - (i + 1))
  rw [show i + 1 + (l.length - (i + 1)) = l.length by omega] at h3
  exact ((List.prefix_append_right_inj _).2 h2).trans h3
theorem innerP_len (U : Int → Ob → Ob → Int × Bool) (r : Int) (l : List It) (i k : Nat) : (innerP U r l i k).length ≤ k := by
  unfold innerP
  have := List.length_filterMap_le (fun j => prOf U r l i (i + 1 + j)) (List.range (k - (i + 1)))
  rw [List.length_range] at this
  omega
theorem outerP_len (U : Int → Ob → Ob → Int × Bool) (r : Int) (l : List It) : ∀ i, (outerP U r l i).length ≤ i * l.length
  | 0 => by simp [outerP]
  | i + 1 => by
    unfold outerP
    rw [List.length_append, Nat.add_mul]
    have := outerP_len U r l i
    have := innerP_len U r l i l.length
    omega
theorem cntP_bd (n : Nat) : ∀ i, 0 ≤ cntP n i ∧ cntP n i ≤ ((i * n : Nat) : Int)
  | 0 => by simp [cntP]
  | i + 1 => by
    unfold cntP
    have := cntP_bd n i
    rw [Nat.add_mul]
    omega
section
variable {mt : Option Addr} {pm : Nat} {I : Hp → Int → Prop} {X : Hp → StA OT → Ob → Prop} {d : Ob → Ob → Int} {U : Int → Ob → Ob → Int × Bool}
theorem s_Pairs (M : Mtr mt pm I X d U) {rr : Int} {h h0 : Hp} {sl : Sl} {l : List It} {K : Sl → Hp → Prop} (hi : I h 0) (x0 : Only pm h0 h) (ol : IRow pm h0 sl l) (hl : l.length ≤ 1000) (hpm : pm < h.size)
    (hK : ∀ s h', IsRow (vsA TT) 3 h' s (outerP U rr l l.length) → I h' (cntP l.length l.length) → Only pm h h' → (∀ a, s.a = some a → a.block ≠ pm) → K s h') : C_scan_Pairs mt sl rr h K := by
  refine F_scan_Pairs_ok _ _ _ _ _ ?_
  have hlen := ol.len
  refine Lp.inv (fun st => ∃ i : Nat, st.1.2.1 = (i : Int) ∧ i ≤ l.length ∧ OwnRow (vsA TT) 3 h.size st.2 st.1.1 (outerP U rr l i) ∧ I st.2 (cntP l.length i) ∧ Only pm h st.2) (fun st => l.length - st.1.2.1.toNat) ?_ ⟨0, rfl, by omega, OwnRow.nil _ _ _ _, hi, Only.refl _ _⟩
  rintro ⟨⟨s, i', ⟨⟩⟩, g⟩ R ⟨i, rfl, hi, os, hig, on⟩ hR
  simp only at os hig on
  have gz := on.size
  have xg : Only pm h0 g := x0.trans on
  unfold L1_scan_Pairs
  dsimp only
  refine cnd_dec.2 ⟨fun hlt => ?_, fun hge => ?_⟩
  · have hx : l[i]? = some (l[i]'(by omega)) := List.getElem?_eq_getElem (by omega)
    generalize l[i]'(by omega) = x at hx
    refine ld_it ol xg (i := (i : Int)) (by omega) (by rw [Int.toNat_natCast]; exact hx) fun a xx ca hid rx => ?_
    refine ldA_row0 (s := .int .u64) (x := iId xx) ca rfl (ldA_row (s := .int .i64) (j := 1) (x := oTag (iOb xx)) ca rfl (ldA_row (s := .sl) (j := 2) (x := oVec (iOb xx)) ca rfl (ldA_row (s := .str) (j := 3) (x := oStr (iOb xx)) ca rfl ?_)))
    refine push_to fun g1 c1 e2 z2 => let_to ?_
    refine stores_blk (vs := (itCells xx).toList) c1 rfl fun g2 c2' u2 _ z3 => ?_
    simp only [List.take_zero, List.nil_append] at c2'
    have c2 : Blk g2 g.size (itCells xx) := c2'
    have xe : Ext g g2 := e2.only_new u2 (Nat.le_refl _)
    have slt := os.lt
    have hwi : IntKind.wrap .i64 ((i : Int) + 1) = ((i + 1 : Nat) : Int) := by rw [wrap_i64 (by omega) (by omega)]; omega
    rw [hwi]
    refine Lp.inv (fun w => ∃ k : Nat, w.1.2.1 = (k : Int) ∧ i + 1 ≤ k ∧ k ≤ l.length ∧ OwnRow (vsA TT) 3 h.size w.2 w.1.1 (outerP U rr l i ++ innerP U rr l i k) ∧ I w.2 (cntP l.length i + ((k - (i + 1) : Nat) : Int)) ∧ Only pm h w.2 ∧ Blk w.2 g.size (itCells xx) ∧ (∀ a, w.1.1.a = some a → a.block ≠ g.size) ∧ g.size < w.2.size)
      (fun w => l.length - w.1.2.1.toNat) ?_ ⟨i + 1, rfl, Nat.le_refl _, by omega, ?_, ?_, on.trans (xe.only pm), c2, fun a ha => by (have := slt a ha; omega), by show g.size < g2.size; omega⟩
    case refine_2 => rw [innerP_nil, List.append_nil]; exact os.ext xe
    case refine_3 => rw [Nat.sub_self]; simpa using M.ext hig xe
    rintro ⟨⟨s1, k', ⟨⟩⟩, w⟩ R2 ⟨k, rfl, hk1, hk2, os1, hiw, onw, c3, hne, hgw⟩ hR2
    simp only at os1 hiw onw c3 hne hgw
    have sab := os1.above
    have xw : Only pm h0 w := x0.trans onw
    have hol := outerP_len U rr l i
    have hil := innerP_len U rr l i k
    have hcb := cntP_bd l.length i
    have hmul : i * l.length ≤ 1000 * 1000 := Nat.mul_le_mul (by omega) (by omega)
    unfold L2_scan_Pairs
    dsimp only
    refine cnd_dec.2 ⟨fun hkl => ?_, fun hkl => let_to ?_⟩
    · have hy : l[k]? = some (l[k]'(by omega)) := List.getElem?_eq_getElem (by omega)
      generalize l[k]'(by omega) = y at hy
      refine ldA_blk (s := .int .i64) (i := 1) (x := oTag (iOb xx)) c3 rfl (ldA_blk (s := .sl) (i := 2) (x := oVec (iOb xx)) c3 rfl (ldA_blk (s := .str) (i := 3) (x := oStr (iOb xx)) c3 rfl ?_))
      refine ld_it ol xw (i := (k : Int)) (by omega) (by rw [Int.toNat_natCast]; exact hy) fun b yy cb hidy ry => ?_
      rw [add_add', add_add']
      refine ldA_row (s := .int .i64) (j := 1) (x := oTag (iOb yy)) cb rfl (ldA_row (s := .sl) (j := 2) (x := oVec (iOb yy)) cb rfl (ldA_row (s := .str) (j := 3) (x := oStr (iOb yy)) cb rfl ?_))
      refine M.upto hiw (by omega) (M.xob (rx.only xw)) (ry.only xw) fun w3 q3 u3 => ?_
      have z3' := u3.size
      have os3 : OwnRow (vsA TT) 3 h.size w3 s1 (outerP U rr l i ++ innerP U rr l i k) := own_same os1 fun a ha => u3.get _ (os1.lt a ha) (by have := sab a ha; omega)
      have c4 := c3.only u3 (by omega)
      have e4 : cntP l.length i + ((k - (i + 1) : Nat) : Int) + 1 = cntP l.length i + ((k + 1 - (i + 1) : Nat) : Int) := by omega
      rw [e4] at q3
      refine cnd_if (fun ht => ?_) (fun hf => let_to ?_)
      · have hp : prOf U rr l i k = some ((i : Int), (k : Int), (U rr x.2 y.2).1, ()) := by unfold prOf; rw [hx, hy]; simp only; rw [if_pos ht]
        refine app1 (x := (((i : Int), (k : Int), (U rr x.2 y.2).1, ()) : StA TT)) encTT (by decide) os3 (by omega) (by rw [List.length_append]; omega) (by decide) rfl rfl fun s6 g6 o6 u6 b6 n6 => let_to ?_
        rw [wrap_i64 (by omega) (by omega)]
        have hz6 := b6.size
        refine hR2 _ ⟨k + 1, by simp, by omega, by omega, ?_, M.stab q3 u6.1 fun _ => b6.get pm (by omega), Only.thenBel (onw.trans u3) b6, c4.onlyS u6 fun a ha e => hne a ha e.symm, fun a ha => ?_, by show g.size < g6.size; have := u6.1; omega⟩ (by simp only; omega)
        · rw [innerP_succ U rr l hk1, hp, ← List.append_assoc]; exact o6
        · rcases n6 with e | ⟨q, e, hq⟩
          · exact hne a (by rw [← e]; exact ha)
          · rw [e] at ha; cases ha; show q ≠ g.size; omega
      · have hp : prOf U rr l i k = none := by unfold prOf; rw [hx, hy]; simp only; rw [if_neg (by rw [hf]; simp)]
        rw [wrap_i64 (by omega) (by omega)]
        refine hR2 _ ⟨k + 1, by simp, by omega, by omega, ?_, q3, onw.trans u3, c4, hne, by show g.size < w3.size; omega⟩ (by simp only; omega)
        rw [innerP_succ U rr l hk1, hp]; simpa using os3
    · obtain rfl : k = l.length := by omega
      rw [hwi]
      refine hR _ ⟨i + 1, rfl, by omega, os1, ?_, onw⟩ (by simp only; omega)
      have : cntP l.length (i + 1) = cntP l.length i + ((l.length - (i + 1) : Nat) : Int) := by
        show cntP l.length i + ((l.length - 1 - i : Nat) : Int) = _; omega
      rw [this]; exact hiw
  · obtain rfl : i = l.length := by omega
    exact hK _ _ os.row hig on fun a ha => by have := os.above a ha; omega
end
/-! Short. -/
def XIRow (h : Hp) (s : Sl) (l : List It) : Prop := ∃ xs : List (StA IT), IsRow (vsA IT) 4 h s xs ∧ xs.length = l.length ∧ ∀ (i : Nat) (x : StA IT) (o : It), xs[i]? = some x → l[i]? = some o → iId x = o.1 ∧ ObX h (iOb x) o.2
theorem XIRow.ext {h h' : Hp} {s : Sl} {l : List It} (r : XIRow h s l) (e : Ext h h') : XIRow h' s l := by
  obtain ⟨xs, r1, r2, r3⟩ := r
  exact ⟨xs, r1.ext e, r2, fun i x o hx ho => ⟨(r3 i x o hx ho).1, (r3 i x o hx ho).2.str, (r3 i x o hx ho).2.vec.ext e, (r3 i x o hx ho).2.ok⟩⟩
theorem XIRow.len {h : Hp} {s : Sl} {l : List It} (r : XIRow h s l) : s.len = l.length := by
  obtain ⟨xs, r1, r2, r3⟩ := r
  rw [r1.len, r2]
def ShrtI (l : List It) (n : Int) : Prop := ∀ x ∈ l, (x.2.1.length : Int) ≤ n ∧ (x.2.2.size : Int) ≤ n
theorem XIRow.short {h : Hp} {s : Sl} {l : List It} {n : Int} {p : Nat} (r : XIRow h s l) (hs : ShrtI l n) (hn : n ≤ 1048576) (hp : h.size ≤ p) : IRow p h s l := by
  obtain ⟨xs, r1, r2, r3⟩ := r
  refine ⟨xs, r1, r2, notAt_of encIT (by decide) r1 hp, fun i x o hx ho => ⟨(r3 i x o hx ho).1, ?_⟩⟩
  have := hs o (List.mem_of_getElem? ho)
  exact ObR.apart ⟨(r3 i x o hx ho).2.str, (r3 i x o hx ho).2.vec, (r3 i x o hx ho).2.ok, by omega, by omega⟩ hp
theorem r_Short17 {h : Hp} {sl sq : Sl} {l : List It} {ql : List Ob} {many n : Int} {K : Bool → Hp → Prop} (r : XIRow h sl l) (rq : XRow h sq ql) (hl : l.length ≤ 140737488355328) (hq : ql.length ≤ 140737488355328)
    (hK : ∀ (t : Bool) h', Ext h h' → (t = true → (l.length : Int) ≤ many ∧ Shrt ql n ∧ ShrtI l n) → K t h') : C_ref17_Short sl sq many n h K := by
  refine F_ref17_Short_ok _ _ _ _ _ _ ?_
  unfold F_ref17_Short
  have hlen := r.len
  rw [Jn_eq]
  have no : ∀ g, Ext h g → K false g := fun g e => hK false g e fun h => by cases h
  refine cnd_dec.2 ⟨fun _ => no h (Ext.refl _), fun hm => cnd_dec.2 ⟨fun _ => no h (Ext.refl _), fun _ => r_Short rq hq fun t ht => ?_⟩⟩
  cases t with
  | false => exact cnd_yes rfl (no h (Ext.refl _))
  | true =>
    refine cnd_no rfl ?_
    unfold J1_ref17_Short
    refine Lp.inv (fun st => Ext h st.2 ∧ ∃ k : Nat, st.1.1 = (k : Int) ∧ k ≤ l.length ∧ ∀ (j : Nat) (o : It), j < k → l[j]? = some o → (o.2.1.length : Int) ≤ n ∧ (o.2.2.size : Int) ≤ n) (fun st => l.length - st.1.1.toNat) ?_ ⟨Ext.refl _, 0, rfl, by omega, fun j o hj => by omega⟩
    rintro ⟨⟨k', ⟨⟩⟩, g⟩ R ⟨xg, k, rfl, hk, hs⟩ hR
    simp only at xg
    unfold L1_ref17_Short
    dsimp only
    refine cnd_dec.2 ⟨fun hlt => ?_, fun hge => ?_⟩
    · obtain ⟨xs, r1, r2, r3⟩ := r
      have hy : l[k]? = some (l[k]'(by omega)) := List.getElem?_eq_getElem (by omega)
      have hx : xs[k]? = some (xs[k]'(by omega)) := List.getElem?_eq_getElem (by omega)
      generalize l[k]'(by omega) = y at hy
      generalize xs[k]'(by omega) = x at hx
      obtain ⟨hid, rx⟩ := r3 k x y hx hy
      refine ld_row (r1.ext xg) (i := (k : Int)) (x := x) (by omega) (by rw [Int.toNat_natCast]; exact hx) fun a ha ca => ?_
      generalize a.add ((k : Int).toNat * 4) = b at ca
      rw [add_add', add_add']
      refine ldA_row (s := .int .i64) (j := 1) (x := oTag (iOb x)) ca rfl (ldA_row (s := .sl) (j := 2) (x := oVec (iOb x)) ca rfl (ldA_row (s := .str) (j := 3) (x := oStr (iOb x)) ca rfl ?_))
      refine push_to fun g1 c1 e1 z1 => let_to ?_
      have x1 := xg.trans e1
      have row : XRow g1 ⟨some ⟨g.size, 0, none⟩, 1, 1⟩ [y.2] := by
        refine ⟨[iOb x], Blk.row encOT c1 (l := [iOb x]) (cap := 1) (Nat.le_refl _) rfl, rfl, fun i u o hu ho => ?_⟩
        match i, hu, ho with
        | 0, hu, ho => cases hu; cases ho; exact ⟨rx.str, rx.vec.ext x1, rx.ok⟩
        | _ + 1, hu, ho => simp at hu
      refine r_Short row (by simp) fun t2 ht2 => ?_
      cases t2 with
      | false => exact cnd_yes rfl (no _ x1)
      | true =>
        refine cnd_no rfl (let_to ?_)
        rw [wrap_i64 (by omega) (by omega)]
        refine hR _ ⟨x1, k + 1, by simp, by omega, fun j o hj ho => ?_⟩ (by simp only; omega)
        by_cases e : j = k
        · subst e; rw [hy] at ho; cases ho
          exact ht2 rfl y.2 (by simp)
        · exact hs j o (by omega) ho
    · refine hK true g xg fun _ => ⟨by omega, ht rfl, fun x hx => ?_⟩
      obtain ⟨j, hj⟩ := List.getElem?_of_mem hx
      exact hs j x (by have := (List.getElem?_eq_some_iff.1 hj).1; omega) hj
end Go.Proofs.YtlbpmophbmbfiaaF
