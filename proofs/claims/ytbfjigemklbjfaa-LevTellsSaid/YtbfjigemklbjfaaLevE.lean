/- Chapter 8: the table, Edits. No condition. -/
import Derived.Test.YtbfjigemklbjfaaLevA
import Derived.Test.YtbfjigemklbjfaaLevRef
namespace Go.Proofs.YtbfjigemklbjfaaF
open Go Go.Proofs.YtbfjigemklbjfaaK
set_option linter.unusedSimpArgs false
set_option linter.unusedVariables false

def E (a b : List Int) (i k : Nat) : Nat := ed (a.drop i) (b.drop k)
theorem E_le (a b : List Int) (i k : Nat) : E a b i k ≤ a.length + b.length := by
  have := (way_count _ (a.drop i) (b.drop k) (Nat.le_refl _))
  have h1 := this.1
  have h2 := this.2
  have h3 : wayc (way (a.drop i) (b.drop k)) ≤ (way (a.drop i) (b.drop k)).length := List.length_filter_le _ _
  unfold E
  rw [List.length_drop, List.length_drop] at h2
  omega
theorem E_endB {a b : List Int} {i : Nat} : E a b i b.length = a.length - i := by
  unfold E; rw [List.drop_length, ed_left, List.length_drop]
theorem E_endA {a b : List Int} {k : Nat} : E a b a.length k = b.length - k := by
  unfold E; rw [List.drop_length, ed_nil, List.length_drop]
theorem E_same {a b : List Int} {i k : Nat} {x : Int} (ha : a[i]? = some x) (hb : b[k]? = some x) : E a b i k = E a b (i + 1) (k + 1) := by
  unfold E; rw [drop_at ha, drop_at hb, ed_same]
theorem E_diff {a b : List Int} {i k : Nat} {x y : Int} (ha : a[i]? = some x) (hb : b[k]? = some y) (h : x ≠ y) : E a b i k = min (min (E a b (i + 1) (k + 1)) (E a b (i + 1) k)) (E a b i (k + 1)) + 1 := by
  unfold E; rw [drop_at ha, drop_at hb, ed_cons]
  have hx : bne1 x y = 1 := by unfold bne1; rw [if_neg h]
  rw [hx]; omega
def rowE (a b : List Int) (i : Nat) : List Int := (List.range (b.length + 1)).map fun k => (E a b i k : Int)
theorem rowE_len (a b : List Int) (i : Nat) : (rowE a b i).length = b.length + 1 := by simp [rowE]
theorem rowE_get {a b : List Int} {i k : Nat} (hk : k ≤ b.length) : (rowE a b i)[k]? = some (E a b i k : Int) := by
  unfold rowE; rw [List.getElem?_map, List.getElem?_range (by omega)]; rfl
def mixE (f g : Nat → Int) (m n : Nat) : List Int := (List.range m).map fun k => if n ≤ k then f k else g k
theorem mixE_len (f g : Nat → Int) (m n : Nat) : (mixE f g m n).length = m := by simp [mixE]
theorem mixE_get {f g : Nat → Int} {m n k : Nat} (hk : k < m) : (mixE f g m n)[k]? = some (if n ≤ k then f k else g k) := by
  unfold mixE; rw [List.getElem?_map, List.getElem?_range hk]; rfl
theorem mixE_set {f g : Nat → Int} {m n : Nat} (hn : n < m) : (mixE f g m (n + 1)).set n (f n) = mixE f g m n := by
  apply List.ext_getElem?
  intro i
  rw [List.getElem?_set]
  by_cases h : i < m
  · rw [mixE_get h, mixE_get h, mixE_len]
    by_cases e : n = i
    · subst e; rw [if_pos rfl, if_pos h, if_pos (Nat.le_refl _)]
    · rw [if_neg e]
      by_cases h2 : n ≤ i
      · rw [if_pos h2, if_pos (by omega)]
      · rw [if_neg h2, if_neg (by omega)]
  · have e1 : (mixE f g m n)[i]? = none := List.getElem?_eq_none (by rw [mixE_len]; omega)
    have e2 : (mixE f g m (n + 1))[i]? = none := List.getElem?_eq_none (by rw [mixE_len]; omega)
    rw [e1, e2, mixE_len]
    split
    · omega
    · rfl
theorem mixE_zero (f g : Nat → Int) (m : Nat) : mixE f g m 0 = (List.range m).map f := by unfold mixE; simp
theorem mixE_full (f g : Nat → Int) (m n : Nat) (h : m ≤ n) : mixE f g m n = (List.range m).map g := by
  unfold mixE
  apply List.map_congr_left
  intro k hk
  have : k < m := by simpa using hk
  rw [if_neg (by omega)]
/-- Rows that are done, from m on. -/
def TabR (a b : List Int) (g : Hp) (t : Sl) (ss : List Sl) (m : Nat) : Prop :=
  ∀ j s, m ≤ j → ss[j]? = some s → IsRow eJ 1 g s (rowE a b j) ∧ ∀ x, s.a = some x → x.block < g.size ∧ ∀ c, t.a = some c → x.block ≠ c.block
theorem TabR.only {a b : List Int} {g g' : Hp} {t : Sl} {ss : List Sl} {m : Nat} (r : TabR a b g t ss m) (hsz : g.size ≤ g'.size) (hk : ∀ j s x, m ≤ j → ss[j]? = some s → s.a = some x → g'[x.block]? = g[x.block]?) : TabR a b g' t ss m := fun j s hj hs => by
  obtain ⟨h1, h2⟩ := r j s hj hs
  refine ⟨⟨h1.len, h1.cap, h1.at_, fun c i y hc hy jj hjj => ?_⟩, fun x hx => ⟨by have := (h2 x hx).1; omega, (h2 x hx).2⟩⟩
  have := h1.get c i y hc hy jj hjj
  rw [← this]
  unfold hcell
  rw [add_block, add_block, hk j s c hj hs hc]
theorem eS_ok' : Enc eS 1 := eS_ok
theorem lev_table {a b : ByteArray} {h : Hp} {K : Sl → Hp → Prop} (ha : a.size ≤ 1000000) (hb : b.size ≤ 1000000)
    (hK : ∀ t ss h', IsRow eS 1 h' t ss → ss.length = a.size + 1 → TabR (bts a) (bts b) h' t ss 0 → (∀ x, t.a = some x → x.block < h'.size) → Ext h h' → K t h') : C_lev_table a b h K := by
  have la := bts_len a
  have lb := bts_len b
  refine F_lev_table_ok _ _ _ _ (let_to ?_)
  rw [wrap_i64 (by omega) (by omega)]
  refine mk_row eS_ok (⟨none, 0, 0⟩ : Sl) rfl (n := a.size + 1) (k := a.size + 1) (by omega) (by omega) (Nat.le_refl _) ⟨by decide, by omega⟩ fun t h3 ot e3 _ _ => ?_
  refine lev_first (n := b.size) (by omega) fun s0 h5 o5 e5 => ?_
  have tab := ot.above
  have tlt := ot.lt
  have s0ab := o5.above
  refine own_set eS_ok (ot.ext e5) (k := a.size) rfl (by simp) (x := s0) rfl fun h7 ot7 u7 _ z7 => ?_
  have o7 : OwnRow eJ 1 h3.size h7 s0 ((List.range (b.size + 1)).map fun i : Nat => (i : Int)) := o5.onlyS u7 fun c hc x hx => by have := tlt c hc; have := s0ab x hx; omega
  have x7 : Ext h h7 := ((e3.trans e5).bel.trans (u7.bel (by have := e5.size; have := e3.size; omega) tab)).ext
  generalize hss : (List.replicate (a.size + 1) (⟨none, 0, 0⟩ : Sl)).set a.size s0 = ss7 at ot7
  have hss7 : ss7.length = a.size + 1 := by rw [← hss]; simp
  have hs7 : ss7[a.size]? = some s0 := by rw [← hss, List.getElem?_set_self (by simp)]
  -- the rows above the last one
  have J1 : ∀ g, OwnRow eS 1 h.size g t ss7 → TabR (bts a) (bts b) g t ss7 a.size → Ext h g → (∀ x, t.a = some x → x.block < g.size) → J1_lev_table a b K t () g := by
    intro g og rg xg tl
    unfold J1_lev_table
    refine let_to ?_
    rw [wrap_i64 (by omega) (by omega)]
    refine Lp.inv (fun st => ∃ (m : Nat) (ss : List Sl), st.1.1 = (m : Int) - 1 ∧ m ≤ a.size ∧ ss.length = a.size + 1 ∧ OwnRow eS 1 h.size st.2 t ss ∧ TabR (bts a) (bts b) st.2 t ss m ∧ Ext h st.2) (fun st => (st.1.1 + 1).toNat) ?_
      ⟨a.size, ss7, rfl, Nat.le_refl _, hss7, og, rg, xg⟩
    rintro ⟨⟨i', ⟨⟩⟩, g⟩ R ⟨m, ss, rfl, hm, hsl, og, rg, xg⟩ hR
    simp only at og rg xg
    unfold L1_lev_table
    dsimp only
    refine cnd_dec.2 ⟨fun hge => let_to ?_, fun hlt => ?_⟩
    · obtain ⟨i, rfl⟩ : ∃ i, m = i + 1 := ⟨m - 1, by omega⟩
      have ei : ((i + 1 : Nat) : Int) - 1 = (i : Int) := by omega
      rw [ei]
      rw [wrap_i64 (by omega) (by omega)]
      have tlg := og.lt
      refine mk0 (n := b.size + 1) (by omega) (by omega) (by omega) (by decide) fun s h11 o11 e11 => ?_
      have sab := o11.above
      refine own_set eS_ok (og.ext e11) (k := i) rfl (by omega) (x := s) rfl fun h13 o13 u13 _ z13 => ?_
      have s13 : OwnRow eJ 1 g.size h13 s (List.replicate (b.size + 1) 0) := o11.onlyS u13 fun c hc x hx => by have := tlg c hc; have := sab x hx; omega
      have hsi : (ss.set i s)[i]? = some s := by rw [List.getElem?_set_self (by omega)]
      refine ld_sl (k := i) o13.row rfl hsi (let_to ?_)
      rw [wrap_i64 (by omega) (by omega)]
      refine own_set eJ_ok s13 (k := b.size) rfl (by simp) (x := (a.size : Int) - i) rfl fun h18 s18 u18 _ z18 => let_to ?_
      rw [wrap_i64 (by omega) (by omega)]
      have x13 : Ext h h13 := ((xg.trans e11).bel.trans (u13.bel (by have := xg.size; have := e11.size; omega) og.above)).ext
      have sz13 : g.size ≤ h13.size := by have := e11.size; omega
      have o18 : OwnRow eS 1 h.size h18 t (ss.set i s) := o13.onlyS u18 fun c hc x hx => by have := tlg x hx; have := sab c hc; omega
      have x18 : Ext h h18 := (x13.bel.trans ((u18.bel sz13 s13.above).mono xg.size)).ext
      have t13 : TabR (bts a) (bts b) h13 t ss (i + 1) := (rg.only (by omega) fun j s' x hj hs' hx => by
        have := (rg j s' hj hs').2 x hx
        rw [u13.2 x.block (by have := e11.size; omega) fun c hc => this.2 c hc, e11.get _ this.1])
      have t18 : TabR (bts a) (bts b) h18 t ss (i + 1) := t13.only (by omega) fun j s' x hj hs' hx => by
        have := (rg j s' hj hs').2 x hx
        rw [u18.2 x.block (by omega) fun c hc => by have := sab c hc; omega]
      have tS : ∀ {q : Hp}, TabR (bts a) (bts b) q t ss (i + 1) → TabR (bts a) (bts b) q t (ss.set i s) (i + 1) := fun r j s' hj hs' => r j s' hj (by rwa [List.getElem?_set_ne (by omega)] at hs')
      have hrow1 : ∃ s1, (ss.set i s)[i + 1]? = some s1 := ⟨_, List.getElem?_eq_getElem (by rw [List.length_set]; omega)⟩
      obtain ⟨s1, hs1⟩ := hrow1
      have em : (List.replicate (b.size + 1) (0 : Int)).set b.size ((a.size : Int) - i) = mixE (fun k => (E (bts a) (bts b) i k : Int)) (fun _ => 0) (b.size + 1) b.size := by
        have := mixE_set (f := fun k => (E (bts a) (bts b) i k : Int)) (g := fun _ => 0) (m := b.size + 1) (n := b.size) (by omega)
        rw [mixE_full _ _ _ _ (by omega)] at this
        rw [← this]
        have e1 : (List.range (b.size + 1)).map (fun _ => (0 : Int)) = List.replicate (b.size + 1) 0 := by
          apply List.ext_getElem <;> simp
        rw [e1]
        have e2 : (E (bts a) (bts b) i b.size : Int) = (a.size : Int) - i := by rw [← lb, E_endB, la]; omega
        rw [e2]
      rw [em] at s18
      refine Lp.inv (fun st => ∃ n : Nat, st.1.1 = (n : Int) - 1 ∧ n ≤ b.size ∧ OwnRow eJ 1 g.size st.2 s (mixE (fun k => (E (bts a) (bts b) i k : Int)) (fun _ => 0) (b.size + 1) n) ∧ OwnRow eS 1 h.size st.2 t (ss.set i s) ∧
          TabR (bts a) (bts b) st.2 t (ss.set i s) (i + 1) ∧ Ext h st.2 ∧ g.size ≤ st.2.size) (fun st => (st.1.1 + 1).toNat) ?_ ⟨b.size, rfl, Nat.le_refl _, s18, o18, tS t18, x18, by show g.size ≤ h18.size; omega⟩
      rintro ⟨⟨k', ⟨⟩⟩, q⟩ R2 ⟨n, rfl, hn, sq, oq, tq, xq, zq⟩ hR2
      simp only at sq oq tq xq zq
      unfold L2_lev_table
      dsimp only
      refine cnd_dec.2 ⟨fun hge2 => ?_, fun hlt2 => let_to ?_⟩
      · obtain ⟨k, rfl⟩ : ∃ k, n = k + 1 := ⟨n - 1, by omega⟩
        have ek : ((k + 1 : Nat) : Int) - 1 = (k : Int) := by omega
        rw [ek]
        have wi : IntKind.wrap .i64 ((i : Int) + 1) = ((i + 1 : Nat) : Int) := by rw [wrap_i64 (by omega) (by omega)]; rfl
        have wk : IntKind.wrap .i64 ((k : Int) + 1) = ((k + 1 : Nat) : Int) := by rw [wrap_i64 (by omega) (by omega)]; rfl
        obtain ⟨r1, n1⟩ := tq (i + 1) s1 (Nat.le_refl _) hs1
        have b1 := E_le (bts a) (bts b) (i + 1) (k + 1)
        have b2 := E_le (bts a) (bts b) (i + 1) k
        have b3 := E_le (bts a) (bts b) i (k + 1)
        refine ld_sl (k := i) oq.row rfl hsi (let_to ?_)
        rw [wi]
        refine ld_sl (k := i + 1) oq.row rfl hs1 (let_to ?_)
        rw [wk]
        refine ld_int0 (i := ((k + 1 : Nat) : Int)) (x := (E (bts a) (bts b) (i + 1) (k + 1) : Int)) r1 (by omega) (rowE_get (by omega)) ?_
        refine own_set eJ_ok sq (k := k) rfl (by rw [mixE_len]; omega) (x := (E (bts a) (bts b) (i + 1) (k + 1) : Int)) rfl fun q2 sq2 u2 _ z2 => ?_
        have oq2 : OwnRow eS 1 h.size q2 t (ss.set i s) := oq.onlyS u2 fun c hc x hx => by have := tlg x hx; have := sab c hc; omega
        have tq2 : TabR (bts a) (bts b) q2 t (ss.set i s) (i + 1) := tq.only (by omega) fun j s' x hj hs' hx => by
          rw [List.getElem?_set_ne (by omega)] at hs'
          have := (rg j s' hj hs').2 x hx
          rw [u2.2 x.block (by omega) fun c hc => by have := sab c hc; omega]
        have xq2 : Ext h q2 := (xq.bel.trans ((u2.bel zq sq.above).mono xg.size)).ext
        have ga := bts_get (s := a) (k := i) (by omega)
        have gb := bts_get (s := b) (k := k) (by omega)
        refine idx_str rfl ga (idx_str rfl gb (cnd_bne.2 ⟨fun hne => ?_, fun he => let_to ?_⟩))
        · obtain ⟨r2, _⟩ := tq2 (i + 1) s1 (Nat.le_refl _) hs1
          refine ld_sl (k := i) oq2.row rfl hsi (let_to ?_)
          refine ld_sl (k := i + 1) oq2.row rfl hs1 (let_to ?_)
          refine ld_int0 (i := ((k + 1 : Nat) : Int)) (x := (E (bts a) (bts b) (i + 1) (k + 1) : Int)) r2 (by omega) (rowE_get (by omega)) (let_to ?_)
          refine ld_sl (k := i + 1) oq2.row rfl hs1 ?_
          refine ld_int0 (i := (k : Int)) (x := (E (bts a) (bts b) (i + 1) k : Int)) r2 (by omega) (rowE_get (by omega)) ?_
          refine ld_sl (k := i) oq2.row rfl hsi (let_to ?_)
          refine ld_int0 (i := ((k + 1 : Nat) : Int)) (x := (E (bts a) (bts b) i (k + 1) : Int)) sq2.row (by omega) (by
            rw [Int.toNat_natCast, List.getElem?_set_ne (by omega), mixE_get (by omega), if_pos (Nat.le_refl _)]) (let_to (let_to (let_to ?_)))
          have hd := E_diff ga gb hne
          refine own_set eJ_ok sq2 (k := k) rfl (by rw [List.length_set, mixE_len]; omega) (x := (E (bts a) (bts b) i k : Int)) (by
            simp only [encI]
            rw [wrap_i64 (by split <;> split <;> omega) (by split <;> split <;> omega), hd]
            congr 2
            (repeat' split) <;> omega) fun q3 sq3 u3 _ z3 => let_to ?_
          rw [wrap_i64 (by omega) (by omega)]
          refine hR2 _ ⟨k, rfl, by omega, ?_, oq2.onlyS u3 fun c hc x hx => by have := tlg x hx; have := sab c hc; omega, tq2.only (by show q2.size ≤ q3.size; omega) fun j s' x hj hs' hx => ?_, (xq2.bel.trans ((u3.bel (by omega) sq2.above).mono xg.size)).ext, by show g.size ≤ q3.size; omega⟩ (by simp only; omega)
          · have e := mixE_set (f := fun k => (E (bts a) (bts b) i k : Int)) (g := fun _ => 0) (m := b.size + 1) (n := k) (by omega)
            rw [List.set_set] at sq3
            rw [← e]; exact sq3
          · rw [List.getElem?_set_ne (by omega)] at hs'
            have := (rg j s' hj hs').2 x hx
            rw [u3.2 x.block (by omega) fun c hc => by have := sab c hc; omega]
        · rw [wrap_i64 (by omega) (by omega)]
          rw [← he] at gb
          have hs := E_same ga gb
          refine hR2 _ ⟨k, rfl, by omega, ?_, oq2, tq2, xq2, by show g.size ≤ q2.size; omega⟩ (by simp only; omega)
          have e := mixE_set (f := fun k => (E (bts a) (bts b) i k : Int)) (g := fun _ => 0) (m := b.size + 1) (n := k) (by omega)
          rw [hs] at e
          rw [← e]; exact sq2
      · obtain rfl : n = 0 := by omega
        rw [wrap_i64 (by omega) (by omega)]
        refine hR _ ⟨i, ss.set i s, rfl, by omega, by rw [List.length_set]; exact hsl, oq, fun j s' hj hs' => ?_, xq⟩ (by simp only; omega)
        by_cases e : j = i
        · subst e
          rw [hsi] at hs'
          cases hs'
          rw [mixE_zero] at sq
          refine ⟨by unfold rowE; rw [lb]; exact sq.row, fun x hx => ⟨sq.lt x hx, fun c hc => by have := tlg c hc; have := sab x hx; omega⟩⟩
        · exact tq j s' (by omega) hs'
    · obtain rfl : m = 0 := by omega
      exact hK t ss g og.row hsl rg og.lt xg
  rw [Jn_eq]
  refine ld_sl (k := a.size) ot7.row rfl hs7 ?_
  have hl0 := o7.row.len
  rw [List.length_map, List.length_range] at hl0
  have id0 : (List.range (b.size + 1)).map (fun i : Nat => (i : Int)) = mixE (fun k => (k : Int)) (fun k => (b.size : Int) - k) (b.size + 1) 0 := (mixE_zero _ _ _).symm
  rw [id0] at o7
  have tl3 : ∀ x, t.a = some x → x.block < h3.size := tlt
  refine Lp.inv (fun st => ∃ n : Nat, st.1.1 = (n : Int) ∧ n ≤ b.size + 1 ∧ OwnRow eJ 1 h3.size st.2 s0 ((List.range (b.size + 1)).map fun k => if n ≤ k then (k : Int) else (b.size : Int) - k) ∧ OwnRow eS 1 h.size st.2 t ss7 ∧ Ext h st.2 ∧ h3.size ≤ st.2.size)
    (fun st => b.size + 1 - st.1.1.toNat) ?_ ⟨0, rfl, by omega, o7, ot7, x7, by have := e5.size; show h3.size ≤ h7.size; omega⟩
  rintro ⟨⟨n', ⟨⟩⟩, g⟩ R ⟨n, rfl, hn, sg, og, xg, zg⟩ hR
  simp only at sg og xg zg
  unfold L3_lev_table
  dsimp only
  refine cnd_dec.2 ⟨fun hlt => ?_, fun hge => ?_⟩
  · refine ld_sl (k := a.size) og.row rfl hs7 (let_to ?_)
    rw [wrap_i64 (by omega) (by omega)]
    refine own_set eJ_ok sg (k := n) rfl (by simp; omega) (x := (b.size : Int) - n) rfl fun g2 s2 u2 _ z2 => let_to ?_
    rw [wrap_i64 (by omega) (by omega)]
    refine hR _ ⟨n + 1, by simp, by omega, ?_, og.onlyS u2 fun c hc x hx => by have := tl3 x hx; have := s0ab c hc; omega, (xg.bel.trans ((u2.bel zg sg.above).mono e3.size)).ext, by show h3.size ≤ g2.size; omega⟩ (by simp only; omega)
    have e : ((List.range (b.size + 1)).map fun k : Nat => if n ≤ k then (k : Int) else (b.size : Int) - k).set n ((b.size : Int) - n) = (List.range (b.size + 1)).map fun k : Nat => if n + 1 ≤ k then (k : Int) else (b.size : Int) - k := by
      apply List.ext_getElem?
      intro i
      rw [List.getElem?_set]
      simp only [List.getElem?_map, List.length_map, List.length_range]
      by_cases h : i < b.size + 1
      · rw [List.getElem?_range h]
        simp only [Option.map_some]
        by_cases e : n = i
        · subst e; rw [if_pos rfl, if_pos h, if_neg (by omega)]
        · rw [if_neg e]
          by_cases h2 : n ≤ i
          · rw [if_pos h2, if_pos (by omega)]
          · rw [if_neg h2, if_neg (by omega)]
      · rw [List.getElem?_eq_none (by simp; omega), if_neg (by omega)]
        simp
    rw [← e]; exact s2
  · obtain rfl : n = b.size + 1 := by omega
    refine J1 g og (fun j s' hj hs' => ?_) xg og.lt
    have hja : j = a.size := by have := (List.getElem?_eq_some_iff.1 hs').1; omega
    subst hja
    rw [hs7] at hs'
    cases hs'
    refine ⟨?_, fun x hx => ⟨sg.lt x hx, fun c hc => by have := tl3 c hc; have := s0ab x hx; omega⟩⟩
    have e : rowE (bts a) (bts b) a.size = (List.range (b.size + 1)).map fun k : Nat => if b.size + 1 ≤ k then (k : Int) else (b.size : Int) - k := by
      unfold rowE
      rw [lb]
      apply List.map_congr_left
      intro k hk
      have hk : k < b.size + 1 := by simpa using hk
      rw [if_neg (by omega), ← la, E_endA, lb]; omega
    rw [e]; exact sg.row
end Go.Proofs.YtbfjigemklbjfaaF
