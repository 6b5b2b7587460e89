/- Chapter 17: the walk through scan. No condition. -/
import Derived.Test.YtlbpmophbmbfiaaBest
import Derived.Test.YtlbpmophbmbfiaaHitsSame
import Derived.Test.YtlbpmophbmbfiaaMetricU
import Derived.Test.YtlbpmophbmbfiaaObs
namespace Go.Proofs.YtlbpmophbmbfiaaF
open Go Go.Proofs.YtlbpmophbmbfiaaK
set_option linter.unusedSimpArgs false
set_option linter.unusedVariables false

/-! Any meter, nil or not. -/
structure Mtr (mt : Option Addr) (pm : Nat) (I : Hp → Int → Prop) (X : Hp → StA OT → Ob → Prop) (d : Ob → Ob → Int) (U : Int → Ob → Ob → Int × Bool) : Prop where
  dist : ∀ {g : Hp} {c : Int} {x y : StA OT} {a b : Ob} {K : Int → Hp → Prop}, I g c → (0 ≤ c ∧ c ≤ 4503599627370496) → X g x a → ObA pm g y b → (∀ g', I g' (c + 1) → Only pm g g' → K (d a b) g') → C_metric_Meter_Dist mt (oTag x) (oVec x) (oStr x) (oTag y) (oVec y) (oStr y) g K
  upto : ∀ {g : Hp} {c most : Int} {x y : StA OT} {a b : Ob} {K : Int → Bool → Hp → Prop}, I g c → (0 ≤ c ∧ c ≤ 4503599627370496) → X g x a → ObA pm g y b → (∀ g', I g' (c + 1) → Only pm g g' → K (U most a b).1 (U most a b).2 g') → C_metric_Meter_Upto mt (oTag x) (oVec x) (oStr x) (oTag y) (oVec y) (oStr y) most g K
  stab : ∀ {g g' : Hp} {c : Int}, I g c → g.size ≤ g'.size → (pm < g.size → g'[pm]? = g[pm]?) → I g' c
  xonly : ∀ {g g' : Hp} {x : StA OT} {a : Ob}, X g x a → Only pm g g' → X g' x a
  xob : ∀ {g : Hp} {x : StA OT} {a : Ob}, ObA pm g x a → X g x a
theorem Mtr.ext {mt : Option Addr} {pm : Nat} {I : Hp → Int → Prop} {X : Hp → StA OT → Ob → Prop} {d : Ob → Ob → Int} {U : Int → Ob → Ob → Int × Bool} (M : Mtr mt pm I X d U) {g g' : Hp} {c : Int} (i : I g c) (e : Ext g g') : I g' c := M.stab i e.size fun h => e.get pm h
theorem mtr_some (p : Nat) (m : Int) : Mtr (some ⟨p, 0, none⟩) p (fun g c => MQ g p m c) (fun g x a => ObA p g x a) (od m) (fun most a b => (if od m a b ≤ most then od m a b else 0, decide (od m a b ≤ most))) where
  dist q hc rx ry hK := m_Dist q hc rx ry hK
  upto q hc rx ry hK := m_Upto q hc rx ry hK
  stab q hs he := by
    obtain ⟨e, q'⟩ := q
    exact ⟨e, by rw [he (block_lt q')]; exact q'⟩
  xonly r u := r.only u
  xob r := r
theorem mtr_nil (p : Nat) (cs : Array Value) : Mtr none p (fun g _ => Blk g p cs) (fun _ _ _ => True) (fun _ _ => 0) (fun _ _ _ => (0, false)) where
  dist := fun {g} {c} {x} {y} {a} {b} {K} q hc rx ry hK => F_metric_Meter_Dist_ok _ _ _ _ _ _ _ _ _ (push_to fun h1 b1 e1 z1 => let_to (push_to fun h2 b2 e2 z2 => let_to (hK h2 (Blk.ext q (e1.trans e2)) ((e1.trans e2).only p))))
  upto := fun {g} {c} {most} {x} {y} {a} {b} {K} q hc rx ry hK => F_metric_Meter_Upto_ok _ _ _ _ _ _ _ _ _ _ (push_to fun h1 b1 e1 z1 => let_to (push_to fun h2 b2 e2 z2 => let_to (hK h2 (Blk.ext q (e1.trans e2)) ((e1.trans e2).only p))))
  stab q hs he := by
    obtain ⟨e, q'⟩ := q
    exact ⟨e, by rw [he (block_lt q')]; exact q'⟩
  xonly _ _ := trivial
  xob _ := trivial

/-! Items. -/
abbrev IT : List At := [.int .u64, .int .i64, .sl, .str]
theorem encIT : Enc (vsA IT) 4 := encA rfl
abbrev iId (x : StA IT) : Int := x.1
abbrev iOb (x : StA IT) : StA OT := (x.2.1, x.2.2.1, x.2.2.2.1, ())
abbrev It := Int × Ob
def IRow (p : Nat) (h : Hp) (s : Sl) (l : List It) : Prop := ∃ xs : List (StA IT), IsRow (vsA IT) 4 h s xs ∧ xs.length = l.length ∧ NotAt p s xs ∧ ∀ (i : Nat) (x : StA IT) (o : It), xs[i]? = some x → l[i]? = some o → iId x = o.1 ∧ ObA p h (iOb x) o.2
theorem IRow.only {p : Nat} {h h' : Hp} {s : Sl} {l : List It} (r : IRow p h s l) (u : Only p h h') : IRow p h' s l := by
  obtain ⟨xs, r1, r2, r3, r4⟩ := r
  exact ⟨xs, isRow_only r1 u r3, r2, r3, fun i x o hx ho => ⟨(r4 i x o hx ho).1, (r4 i x o hx ho).2.only u⟩⟩
theorem IRow.len {p : Nat} {h : Hp} {s : Sl} {l : List It} (r : IRow p h s l) : s.len = l.length := by
  obtain ⟨xs, r1, r2, r3⟩ := r
  rw [r1.len, r2]
theorem ld_it {p : Nat} {h h0 : Hp} {s : Sl} {l : List It} (r : IRow p h0 s l) (e : Only p h0 h) {i : Int} {o : It} (hi0 : 0 ≤ i) (ho : l[i.toNat]? = some o) {K : Addr → Prop} (hK : ∀ a (x : StA IT), cellsAt h a (vsA IT x) → iId x = o.1 → ObA p h0 (iOb x) o.2 → K a) : idxS s.a s.len i 4 K := by
  obtain ⟨xs, r1, r2, r3, r4⟩ := r
  have hi := (List.getElem?_eq_some_iff.1 ho).1
  have hx : xs[i.toNat]? = some (xs[i.toNat]'(by omega)) := List.getElem?_eq_getElem (by omega)
  exact ld_row (isRow_only r1 e r3) hi0 hx fun a ha hc => hK _ _ hc (r4 _ _ _ hx ho).1 (r4 _ _ _ hx ho).2
abbrev itCells (x : StA IT) : Array Value := #[.int .u64 (iId x), .int .i64 (oTag (iOb x)), .slice (oVec (iOb x)).a (oVec (iOb x)).len (oVec (iOb x)).cap, .string (oStr (iOb x))]
def hitOf (d : Ob → Ob → Int) (q : Ob) (x : It) : StA HT := (x.1, d q x.2, ())
def rngOf (U : Int → Ob → Ob → Int × Bool) (r : Int) (q : Ob) (x : It) : Option (StA HT) := if (U r q x.2).2 = true then some (x.1, (U r q x.2).1, ()) else none

section
variable {mt : Option Addr} {pm : Nat} {I : Hp → Int → Prop} {X : Hp → StA OT → Ob → Prop} {d : Ob → Ob → Int} {U : Int → Ob → Ob → Int × Bool}
theorem s_All (M : Mtr mt pm I X d U) {c : Int} {h h0 : Hp} {sl : Sl} {l : List It} {x : StA OT} {q : Ob} {K : Sl → Hp → Prop} (hi : I h c) (hc : 0 ≤ c ∧ c ≤ 1000000000) (x0 : Only pm h0 h) (ol : IRow pm h0 sl l) (rx : X h0 x q) (hl : l.length ≤ 1048576) (hpm : pm < h.size)
    (hK : ∀ s h', RH h' s (srt (l.map (hitOf d q))) → I h' (c + l.length) → Only pm h h' → (∀ a, s.a = some a → a.block ≠ pm) → K s h') : C_scan_All mt sl (oTag x) (oVec x) (oStr x) h K := by
  refine F_scan_All_ok _ _ _ _ _ _ _ (push_to fun h1 b1 e1 z1 => let_to ?_)
  have hlen := ol.len
  refine Lp.inv (fun st => ∃ k : Nat, st.1.2.1 = (k : Int) ∧ k ≤ l.length ∧ OwnRow (vsA HT) 2 h1.size st.2 st.1.1 ((l.take k).map (hitOf d q)) ∧ I st.2 (c + k) ∧ Only pm h1 st.2) (fun st => l.length - st.1.2.1.toNat) ?_ ⟨0, rfl, by omega, OwnRow.nil _ _ _ _, by simpa using M.ext hi e1, Only.refl _ _⟩
  rintro ⟨⟨s, k', ⟨⟩⟩, g⟩ R ⟨k, rfl, hk, os, hig, on⟩ hR
  simp only at os hig on
  have gz := on.size
  have slen := os.row.len
  have sab := os.above
  rw [List.length_map, List.length_take] at slen
  have xg : Only pm h0 g := (x0.trans (e1.only pm)).trans on
  have b1g : Blk g h.size _ := b1.only on (by omega)
  unfold L1_scan_All
  dsimp only
  refine cnd_dec.2 ⟨fun hlt => ?_, fun hge => ?_⟩
  · have hy : l[k]? = some (l[k]'(by omega)) := List.getElem?_eq_getElem (by omega)
    have htk := take_snoc hy
    generalize l[k]'(by omega) = y at hy htk
    refine ld_it ol xg (i := (k : Int)) (by omega) (by rw [Int.toNat_natCast]; exact hy) fun a yy ca hid ry => ?_
    refine ldA_row0 (s := .int .u64) (x := iId yy) ca rfl (ldA_row (s := .int .i64) (j := 1) (x := oTag (iOb yy)) ca rfl (ldA_row (s := .sl) (j := 2) (x := oVec (iOb yy)) ca rfl (ldA_row (s := .str) (j := 3) (x := oStr (iOb yy)) ca rfl ?_)))
    refine push_to fun g1 c1 e2 z2 => let_to ?_
    refine stores_blk (vs := (itCells yy).toList) c1 rfl fun g2 c2' u2 _ z3 => ?_
    simp only [List.take_zero, List.nil_append] at c2'
    have c2 : Blk g2 g.size (itCells yy) := c2'
    have xe : Ext g g2 := e2.only_new u2 (Nat.le_refl _)
    have b1g2 := b1g.ext xe
    refine ⟨[pm], ?_⟩
    refine ⟨?_, ldA_blk (s := .int .u64) (x := iId yy) c2 rfl ⟨?_, ldA_blk (s := .int .i64) (x := oTag x) b1g2 rfl (ldA_blk (s := .sl) (i := 1) (x := oVec x) b1g2 rfl (ldA_blk (s := .str) (i := 2) (x := oStr x) b1g2 rfl ⟨?_, ldA_blk (s := .int .i64) (i := 1) (x := oTag (iOb yy)) c2 rfl (ldA_blk (s := .sl) (i := 2) (x := oVec (iOb yy)) c2 rfl (ldA_blk (s := .str) (i := 3) (x := oStr (iOb yy)) c2 rfl ?_))⟩))⟩⟩
    · rw [List.mem_singleton]; show g.size ≠ pm; omega
    · rw [List.mem_singleton]; show h.size ≠ pm; omega
    · rw [List.mem_singleton]; show g.size ≠ pm; omega
    refine M.dist (M.ext hig xe) (by omega) (M.xonly rx (xg.trans (xe.only pm))) (ry.only (xg.trans (xe.only pm))) fun g3 q3 u3 => ⟨Only.extS u3, ?_⟩
    have os3 : OwnRow (vsA HT) 2 h1.size g3 s ((l.take k).map (hitOf d q)) := own_same (os.ext xe) fun a ha => u3.get _ ((os.ext xe).lt a ha) (by have := sab a ha; omega)
    have z5 := u3.size
    refine app1 (x := hitOf d q y) encHT (by decide) os3 (by omega) (by rw [List.length_map, List.length_take]; omega) (by decide) rfl (by simp [hitOf, vsA, hid]) fun s6 g6 o6 u6 b6 _ => let_to ?_
    rw [wrap_i64 (by omega) (by omega)]
    refine hR _ ⟨k + 1, by simp, by omega, ?_, ?_, ?_⟩ (by simp only; omega)
    · rw [← htk, List.map_append]; exact o6
    · rw [show c + ((k + 1 : Nat) : Int) = c + k + 1 by omega]
      exact M.stab q3 u6.1 fun _ => b6.get pm (by omega)
    · exact Only.thenBel ((on.trans (xe.only pm)).trans u3) b6
  · obtain rfl : k = l.length := by omega
    rw [List.take_length] at os
    refine c_hSort os.row (by rw [List.length_map]; omega) fun s6 g6 o6 e6 => ?_
    refine hK _ _ o6.row (M.ext hig e6) (((e1.only pm).trans on).trans (e6.only pm)) fun a ha => by have := o6.above a ha; omega
theorem s_Range (M : Mtr mt pm I X d U) {c rr : Int} {h h0 : Hp} {sl : Sl} {l : List It} {x : StA OT} {q : Ob} {K : Sl → Hp → Prop} (hi : I h c) (hc : 0 ≤ c ∧ c ≤ 1000000000) (x0 : Only pm h0 h) (ol : IRow pm h0 sl l) (rx : X h0 x q) (hl : l.length ≤ 1048576) (hpm : pm < h.size)
    (hK : ∀ s h', RH h' s (srt (l.filterMap (rngOf U rr q))) → I h' (c + l.length) → Only pm h h' → (∀ a, s.a = some a → a.block ≠ pm) → K s h') : C_scan_Range mt sl (oTag x) (oVec x) (oStr x) rr h K := by
  refine F_scan_Range_ok _ _ _ _ _ _ _ _ (push_to fun h1 b1 e1 z1 => let_to ?_)
  have hlen := ol.len
  refine Lp.inv (fun st => ∃ k : Nat, st.1.2.1 = (k : Int) ∧ k ≤ l.length ∧ OwnRow (vsA HT) 2 h1.size st.2 st.1.1 ((l.take k).filterMap (rngOf U rr q)) ∧ I st.2 (c + k) ∧ Only pm h1 st.2) (fun st => l.length - st.1.2.1.toNat) ?_ ⟨0, rfl, by omega, OwnRow.nil _ _ _ _, by simpa using M.ext hi e1, Only.refl _ _⟩
  rintro ⟨⟨s, k', ⟨⟩⟩, g⟩ R ⟨k, rfl, hk, os, hig, on⟩ hR
  simp only at os hig on
  have gz := on.size
  have slen := os.row.len
  have sab := os.above
  have hfl : ((l.take k).filterMap (rngOf U rr q)).length ≤ l.length := by
    have := List.length_filterMap_le (rngOf U rr q) (l.take k)
    rw [List.length_take] at this
    omega
  have xg : Only pm h0 g := (x0.trans (e1.only pm)).trans on
  have b1g : Blk g h.size _ := b1.only on (by omega)
  unfold L1_scan_Range
  dsimp only
  refine cnd_dec.2 ⟨fun hlt => ?_, fun hge => ?_⟩
  · have hy : l[k]? = some (l[k]'(by omega)) := List.getElem?_eq_getElem (by omega)
    have htk := take_snoc hy
    generalize l[k]'(by omega) = y at hy htk
    refine ld_it ol xg (i := (k : Int)) (by omega) (by rw [Int.toNat_natCast]; exact hy) fun a yy ca hid ry => ?_
    refine ldA_row0 (s := .int .u64) (x := iId yy) ca rfl (ldA_row (s := .int .i64) (j := 1) (x := oTag (iOb yy)) ca rfl (ldA_row (s := .sl) (j := 2) (x := oVec (iOb yy)) ca rfl (ldA_row (s := .str) (j := 3) (x := oStr (iOb yy)) ca rfl ?_)))
    refine push_to fun g1 c1 e2 z2 => let_to ?_
    refine stores_blk (vs := (itCells yy).toList) c1 rfl fun g2 c2' u2 _ z3 => ?_
    simp only [List.take_zero, List.nil_append] at c2'
    have c2 : Blk g2 g.size (itCells yy) := c2'
    have xe : Ext g g2 := e2.only_new u2 (Nat.le_refl _)
    have b1g2 := b1g.ext xe
    refine ldA_blk (s := .int .i64) (x := oTag x) b1g2 rfl (ldA_blk (s := .sl) (i := 1) (x := oVec x) b1g2 rfl (ldA_blk (s := .str) (i := 2) (x := oStr x) b1g2 rfl (ldA_blk (s := .int .i64) (i := 1) (x := oTag (iOb yy)) c2 rfl (ldA_blk (s := .sl) (i := 2) (x := oVec (iOb yy)) c2 rfl (ldA_blk (s := .str) (i := 3) (x := oStr (iOb yy)) c2 rfl ?_)))))
    refine M.upto (M.ext hig xe) (by omega) (M.xonly rx (xg.trans (xe.only pm))) (ry.only (xg.trans (xe.only pm))) fun g3 q3 u3 => ?_
    have os3 : OwnRow (vsA HT) 2 h1.size g3 s ((l.take k).filterMap (rngOf U rr q)) := own_same (os.ext xe) fun a ha => u3.get _ ((os.ext xe).lt a ha) (by have := sab a ha; omega)
    have z5 := u3.size
    have on3 : Only pm h1 g3 := (on.trans (xe.only pm)).trans u3
    refine cnd_if (fun ht => ldA_blk (s := .int .u64) (x := iId yy) (c2.only u3 (by omega)) rfl ?_) (fun hf => let_to ?_)
    · have hro : rngOf U rr q y = some (y.1, (U rr q y.2).1, ()) := by unfold rngOf; rw [if_pos ht]
      refine app1 (x := ((y.1, (U rr q y.2).1, ()) : StA HT)) encHT (by decide) os3 (by omega) (by omega) (by decide) rfl (by simp [vsA, hid]) fun s6 g6 o6 u6 b6 _ => let_to ?_
      rw [wrap_i64 (by omega) (by omega)]
      refine hR _ ⟨k + 1, by simp, by omega, ?_, ?_, ?_⟩ (by simp only; omega)
      · rw [← htk, List.filterMap_append, List.filterMap_cons, hro]; exact o6
      · rw [show c + ((k + 1 : Nat) : Int) = c + k + 1 by omega]
        exact M.stab q3 u6.1 fun _ => b6.get pm (by omega)
      · exact Only.thenBel on3 b6
    · have hro : rngOf U rr q y = none := by unfold rngOf; rw [if_neg (by rw [hf]; simp)]
      rw [wrap_i64 (by omega) (by omega)]
      refine hR _ ⟨k + 1, by simp, by omega, ?_, ?_, on3⟩ (by simp only; omega)
      · rw [← htk, List.filterMap_append, List.filterMap_cons, hro]; simpa using os3
      · rw [show c + ((k + 1 : Nat) : Int) = c + k + 1 by omega]; exact q3
  · obtain rfl : k = l.length := by omega
    rw [List.take_length] at os hfl
    refine c_hSort os.row (by omega) fun s6 g6 o6 e6 => ?_
    refine hK _ _ o6.row (M.ext hig e6) (((e1.only pm).trans on).trans (e6.only pm)) fun a ha => by have := o6.above a ha; omega
theorem s_Near (M : Mtr mt pm I X d U) {c kk : Int} {h h0 : Hp} {sl : Sl} {l : List It} {x : StA OT} {q : Ob} {K : Sl → Hp → Prop} (hi : I h c) (hc : 0 ≤ c ∧ c ≤ 1000000000) (x0 : Only pm h0 h) (ol : IRow pm h0 sl l) (rx : X h0 x q) (hl : l.length ≤ 1048576) (hpm : pm < h.size) (hkk : -9223372036854775808 ≤ kk ∧ kk ≤ 9223372036854775807)
    (hK : ∀ s h', RH h' s (keep kk.toNat (l.map (hitOf d q))) → I h' (c + l.length) → Only pm h h' → K s h') : C_scan_Near mt sl (oTag x) (oVec x) (oStr x) kk h K := by
  refine F_scan_Near_ok _ _ _ _ _ _ _ _ (push_to fun h1 b1 e1 z1 => let_to (b_New hkk fun b gg h4 e4 q4 hbp => ?_))
  have hlen := ol.len
  have zb := q4.bb.lt
  have z4 := e4.size
  refine Lp.inv (fun st => ∃ (k : Nat) (s' : Sl) (l' : List (StA HT)), st.1.1 = (k : Int) ∧ k ≤ l.length ∧ BQ st.2 b h1.size gg s' l' kk.toNat ∧ l'.Perm (keep kk.toNat ((l.take k).map (hitOf d q))) ∧ I st.2 (c + k) ∧ Only pm h1 st.2 ∧ (∀ a, s'.a = some a → h1.size ≤ a.block) ∧ h4.size ≤ st.2.size)
    (fun st => l.length - st.1.1.toNat) ?_ ⟨0, _, [], rfl, by omega, q4, by simp [keep, srt], by simpa using M.ext hi (e1.trans e4), e4.only pm, fun a ha => by (cases ha), Nat.le_refl _⟩
  rintro ⟨⟨k', ⟨⟩⟩, g⟩ R ⟨k, s', l', rfl, hk, qb, pmm, hig, on, sab, hg⟩ hR
  simp only at qb pmm hig on hg
  have gz := on.size
  have xg : Only pm h0 g := (x0.trans (e1.only pm)).trans on
  have b1g : Blk g h.size _ := b1.only on (by omega)
  have hl1 := pmm.length_eq
  have hkl := keep_len kk.toNat ((l.take k).map (hitOf d q))
  rw [List.length_map, List.length_take] at hkl
  unfold L1_scan_Near
  dsimp only
  refine cnd_dec.2 ⟨fun hlt => ?_, fun hge => ?_⟩
  · have hy : l[k]? = some (l[k]'(by omega)) := List.getElem?_eq_getElem (by omega)
    have htk := take_snoc hy
    generalize l[k]'(by omega) = y at hy htk
    refine ld_it ol xg (i := (k : Int)) (by omega) (by rw [Int.toNat_natCast]; exact hy) fun a yy ca hid ry => ?_
    refine ldA_row0 (s := .int .u64) (x := iId yy) ca rfl (ldA_row (s := .int .i64) (j := 1) (x := oTag (iOb yy)) ca rfl (ldA_row (s := .sl) (j := 2) (x := oVec (iOb yy)) ca rfl (ldA_row (s := .str) (j := 3) (x := oStr (iOb yy)) ca rfl ?_)))
    refine push_to fun g1 c1 e2 z2 => let_to ?_
    refine stores_blk (vs := (itCells yy).toList) c1 rfl fun g2 c2' u2 _ z3 => ?_
    simp only [List.take_zero, List.nil_append] at c2'
    have c2 : Blk g2 g.size (itCells yy) := c2'
    have xe : Ext g g2 := e2.only_new u2 (Nat.le_refl _)
    have b1g2 := b1g.ext xe
    refine ⟨[pm], ?_⟩
    refine ⟨?_, ldA_blk (s := .int .u64) (x := iId yy) c2 rfl ⟨?_, ldA_blk (s := .int .i64) (x := oTag x) b1g2 rfl (ldA_blk (s := .sl) (i := 1) (x := oVec x) b1g2 rfl (ldA_blk (s := .str) (i := 2) (x := oStr x) b1g2 rfl ⟨?_, ldA_blk (s := .int .i64) (i := 1) (x := oTag (iOb yy)) c2 rfl (ldA_blk (s := .sl) (i := 2) (x := oVec (iOb yy)) c2 rfl (ldA_blk (s := .str) (i := 3) (x := oStr (iOb yy)) c2 rfl ?_))⟩))⟩⟩
    · rw [List.mem_singleton]; show g.size ≠ pm; omega
    · rw [List.mem_singleton]; show h.size ≠ pm; omega
    · rw [List.mem_singleton]; show g.size ≠ pm; omega
    refine M.dist (M.ext hig xe) (by omega) (M.xonly rx (xg.trans (xe.only pm))) (ry.only (xg.trans (xe.only pm))) fun g3 q3 u3 => ⟨Only.extS u3, ?_⟩
    have z5 := u3.size
    have z2' := xe.size
    have qb2 := qb.ext xe
    have qb3 : BQ g3 b h1.size gg s' l' kk.toNat := ⟨qb2.bb.only u3 (by omega), qb2.q.only u3 (by omega) (fun a ha => by have := sab a ha; omega), qb2.hp, qb2.ord, qb2.bp, qb2.bs⟩
    have hhit : hId (hitOf d q y) = iId yy := hid.symm
    rw [show iId yy = hId (hitOf d q y) from hid, show d q y.2 = hDi (hitOf d q y) from rfl]
    refine b_Add (x := hitOf d q y) qb3 pmm.symm (keep_srt _ _) hkl.1 (by omega) fun s4 l4 g4 q4' p4 w4 => let_to ?_
    rw [wrap_i64 (by omega) (by omega)]
    have hks : keep kk.toNat ((l.take (k + 1)).map (hitOf d q)) = kp kk.toNat (keep kk.toNat ((l.take k).map (hitOf d q))) (hitOf d q y) := by rw [← htk, List.map_append, List.map_singleton, keep_snoc]
    rw [← hks] at p4
    have b34 : Bel h1.size g3 g4 := w4.o.bel (by omega) (Nat.le_refl _) sab
    refine hR _ ⟨k + 1, s4, l4, by simp, by omega, q4', p4, ?_, Only.thenBel ((on.trans (xe.only pm)).trans u3) b34, fun a ha => ?_, by have := b34.size; show h4.size ≤ g4.size; omega⟩ (by simp only; omega)
    · rw [show c + ((k + 1 : Nat) : Int) = c + k + 1 by omega]
      exact M.stab q3 b34.size fun _ => b34.get pm (by omega)
    · rcases w4.n with e | ⟨b', e, hb'⟩
      · exact sab a (by rw [← e]; exact ha)
      · rw [e] at ha; cases ha; show h1.size ≤ b'; omega
  · obtain rfl : k = l.length := by omega
    rw [List.take_length] at pmm
    refine b_List qb fun s5 g5 r5 e5 => ?_
    have hsl : srt l' = keep kk.toNat (l.map (hitOf d q)) := (srt_eq pmm.symm (keep_srt _ _)).symm
    rw [hsl] at r5
    exact hK _ _ r5 (M.ext hig e5) (((e1.only pm).trans on).trans (e5.only pm))
end
end Go.Proofs.YtlbpmophbmbfiaaF
