/- Chapter 45: numbers compared; buckets. No condition. -/
import Derived.Test.YthongmodndidkaaF
import Derived.Test.YthongmodndidkaaK16
namespace Go.Proofs.YthongmodndidkaaF
open Go Go.Proofs.YthongmodndidkaaK
set_option linter.unusedSimpArgs false
set_option linter.unusedVariables false

abbrev R64 := IsRow (encI .i64) 1
theorem encI64 : Enc (encI .i64) 1 := encI_ok _
theorem take_snoc {α : Type} {l : List α} {k : Nat} {x : α} (h : l[k]? = some x) : l.take k ++ [x] = l.take (k + 1) := by
  rw [List.take_add_one, h]; rfl
theorem ref_Ints {sa sb : Sl} {la lb : List Int} {h : Hp} {K : Bool → Hp → Prop} (ra : R64 h sa la) (rb : R64 h sb lb) (hl : la.length ≤ 140737488355328) (hk : ∀ t : Bool, (t = true ↔ la = lb) → K t h) : C_ref07_Ints sa sb h K := by
  refine F_ref07_Ints_ok _ _ _ _ ?_
  unfold F_ref07_Ints
  rw [ra.len, rb.len, cnd_bne]
  refine ⟨fun hne => hk false ⟨fun e => (by cases e), fun e => (by subst e; exact (hne rfl).elim)⟩, fun heq => ?_⟩
  have heq : la.length = lb.length := by omega
  refine Lp.inv (fun st => ∃ k : Nat, st = (((((k : Int), ()), h)) : (Int × Unit) × Hp) ∧ k ≤ la.length ∧ ∀ i, i < k → la[i]? = lb[i]?) (fun st => la.length - st.1.1.toNat) ?_ ⟨0, rfl, by omega, fun i hi => by omega⟩
  rintro _ R ⟨k, rfl, hk1, hs⟩ hR
  unfold L1_ref07_Ints
  dsimp only
  refine cnd_dec.2 ⟨fun hlt => ?_, fun hge => ?_⟩
  · rw [ra.len] at hlt
    have hx : la[k]? = some (la[k]'(by omega)) := List.getElem?_eq_getElem (by omega)
    have hy : lb[k]? = some (lb[k]'(by omega)) := List.getElem?_eq_getElem (by omega)
    refine ld_int0 (i := (k : Int)) (x := la[k]'(by omega)) ra (by omega) (by rw [Int.toNat_natCast]; exact hx) (ld_int0 (i := (k : Int)) (x := lb[k]'(by omega)) rb (by omega) (by rw [Int.toNat_natCast]; exact hy) (cnd_bne.2 ⟨fun hne => hk false ⟨fun e => (by cases e), fun e => (by subst e; exact (hne rfl).elim)⟩, fun he => let_to ?_⟩))
    rw [wrap_i64 (by omega) (by omega)]
    refine hR _ ⟨k + 1, rfl, by omega, fun i hi => ?_⟩ (by simp only; omega)
    by_cases e : i = k
    · subst e; rw [hx, hy, he]
    · exact hs i (by omega)
  · rw [ra.len] at hge
    refine hk true ⟨fun _ => ?_, fun _ => rfl⟩
    apply List.ext_getElem?
    intro i
    by_cases hi : i < k
    · exact hs i hi
    · rw [List.getElem?_eq_none (by omega), List.getElem?_eq_none (by omega)]
/-! Buckets. -/
abbrev HIT : List At := [.int .u64, .int .i64]
def bkt (w m d : Int) : Int := if (if m - 1 < Int.tdiv d (if 1 > w then 1 else w) then m - 1 else Int.tdiv d (if 1 > w then 1 else w)) > 0 then (if m - 1 < Int.tdiv d (if 1 > w then 1 else w) then m - 1 else Int.tdiv d (if 1 > w then 1 else w)) else 0
theorem bkt_bd {w m d : Int} (hm : 1 ≤ m) : 0 ≤ bkt w m d ∧ bkt w m d < m := by
  unfold bkt
  (repeat' split) <;> omega
def bump (t : List Int) (b : Nat) : List Int := t.set b (t[b]?.getD 0 + 1)
def tally (w m : Int) (ds : List Int) : List Int := ds.foldl (fun t d => bump t (bkt w m d).toNat) (List.replicate m.toNat 0)
theorem tally_snoc (w m : Int) (ds : List Int) (d : Int) : tally w m (ds ++ [d]) = bump (tally w m ds) (bkt w m d).toNat := by unfold tally; rw [List.foldl_append]; rfl
theorem tally_len0 (w m : Int) : ∀ (ds : List Int) (t : List Int), (ds.foldl (fun t d => bump t (bkt w m d).toNat) t).length = t.length
  | [], t => rfl
  | d :: ds, t => by rw [List.foldl_cons, tally_len0 w m ds, bump, List.length_set]
theorem tally_len (w m : Int) (ds : List Int) : (tally w m ds).length = m.toNat := by unfold tally; rw [tally_len0]; simp
theorem tally_bd0 (w m : Int) : ∀ (ds : List Int) (t : List Int) (n : Nat), (∀ x ∈ t, 0 ≤ x ∧ x ≤ n) → ∀ x ∈ ds.foldl (fun t d => bump t (bkt w m d).toNat) t, 0 ≤ x ∧ x ≤ ((n + ds.length : Nat) : Int)
  | [], t, n, ht => by simpa using ht
  | d :: ds, t, n, ht => by
    rw [List.foldl_cons, List.length_cons, show n + (ds.length + 1) = (n + 1) + ds.length by omega]
    refine tally_bd0 w m ds _ (n + 1) fun x hx => ?_
    unfold bump at hx
    rcases List.mem_or_eq_of_mem_set hx with hx | rfl
    · have := ht x hx; omega
    · cases hg : t[(bkt w m d).toNat]? with
      | none => simp; omega
      | some y => have := ht y (List.mem_of_getElem? hg); simp; omega
theorem tally_bd (w m : Int) (ds : List Int) : ∀ x ∈ tally w m ds, 0 ≤ x ∧ x ≤ ds.length := by
  intro x hx
  have := tally_bd0 w m ds (List.replicate m.toNat 0) 0 (fun x hx => by simp at hx; omega) x hx
  simpa using this
theorem tdiv_bd {d c : Int} (hc : 1 ≤ c) (hd : -9223372036854775808 ≤ d ∧ d ≤ 9223372036854775807) : -9223372036854775808 ≤ Int.tdiv d c ∧ Int.tdiv d c ≤ 9223372036854775807 := by
  by_cases h : 0 ≤ d
  · rw [Int.tdiv_eq_ediv_of_nonneg h]
    have h1 := Int.ediv_le_self c h
    have h2 := Int.ediv_nonneg h (show 0 ≤ c by omega)
    omega
  · have e : d = -(-d) := by omega
    rw [e, Int.neg_tdiv, Int.tdiv_eq_ediv_of_nonneg (by omega)]
    have h1 := Int.ediv_le_self c (a := -d) (by omega)
    have h2 := Int.ediv_nonneg (a := -d) (b := c) (by omega) (by omega)
    omega
theorem r_Buckets {s : Sl} {l : List (StA HIT)} {w m : Int} {h : Hp} {K : Sl → Hp → Prop} (r : IsRow (vsA HIT) 2 h s l) (hl : l.length ≤ 140737488355328) (hw : -9223372036854775808 ≤ w ∧ w ≤ 9223372036854775807) (hd : ∀ x ∈ l, -9223372036854775808 ≤ x.2.1 ∧ x.2.1 ≤ 9223372036854775807)
    (h1 : 1 ≤ m) (h2 : m ≤ 1000) (hk : ∀ h' s', R64 h' s' (tally w m (l.map (·.2.1))) → Ext h h' → K s' h') : C_report_Buckets s w m h K := by
  refine F_report_Buckets_ok _ _ _ _ _ ?_
  unfold F_report_Buckets
  rw [Jn_eq]
  refine cnd_dec.2 ⟨fun h => by omega, fun _ => cnd_dec.2 ⟨fun h => by omega, fun _ => ?_⟩⟩
  unfold J1_report_Buckets
  have hmn : m = ((m.toNat : Nat) : Int) := by omega
  refine mk_row encI64 (0 : Int) (by rfl) hmn hmn (Nat.le_refl _) (by refine ⟨by decide, by omega⟩) fun s1 g1 o1 e1 _ _ => ?_
  refine Lp.inv (fun st => ∃ k : Nat, st.1.1 = (k : Int) ∧ k ≤ l.length ∧ OwnRow (encI .i64) 1 h.size st.2 s1 (tally w m ((l.take k).map (·.2.1))) ∧ Ext h st.2) (fun st => l.length - st.1.1.toNat) ?_ ⟨0, rfl, by omega, by simpa [tally] using o1, e1⟩
  rintro ⟨⟨i, ⟨⟩⟩, g2⟩ R ⟨k, rfl, hk1, o2, e2⟩ hR
  simp only at o2 e2 hk1
  unfold L1_report_Buckets
  dsimp only
  refine cnd_dec.2 ⟨fun hlt => ?_, fun hge => ?_⟩
  · rw [r.len] at hlt
    have hkl : k < l.length := by omega
    have hx : l[k]? = some l[k] := List.getElem?_eq_getElem hkl
    have htk := take_snoc hx
    have hdk := hd l[k] (List.getElem_mem hkl)
    refine ld_row (i := (k : Int)) (x := l[k]) (r.ext e2) (by omega) (by rw [Int.toNat_natCast]; exact hx) fun a ha hc => ?_
    refine ldA_row0 hc rfl (ldA_row hc rfl ?_)
    refine box_to (vsA HIT l[k]) rfl fun g3 w3 u3 y3 => ldA_blk (s := .int .i64) (i := 1) (x := l[k].2.1) w3 rfl (let_to ⟨by split <;> omega, let_to (let_to (let_to (let_to ?_)))⟩)
    have hq := tdiv_bd (c := if 1 > w then 1 else w) (by split <;> omega) hdk
    rw [wrap_i64 hq.1 hq.2, wrap_i64 (x := m - 1) (by omega) (by omega)]
    have hbd := bkt_bd (w := w) (d := l[k].2.1) h1
    have hbe : bkt w m l[k].2.1 = if (if m - 1 < Int.tdiv l[k].2.1 (if 1 > w then 1 else w) then m - 1 else Int.tdiv l[k].2.1 (if 1 > w then 1 else w)) > 0 then (if m - 1 < Int.tdiv l[k].2.1 (if 1 > w then 1 else w) then m - 1 else Int.tdiv l[k].2.1 (if 1 > w then 1 else w)) else 0 := rfl
    rw [← hbe]
    generalize hT : tally w m ((l.take k).map (·.2.1)) = T at o2
    have hTl : T.length = m.toNat := by rw [← hT, tally_len]
    have hgt : T[(bkt w m l[k].2.1).toNat]? = some (T[(bkt w m l[k].2.1).toNat]'(by omega)) := List.getElem?_eq_getElem (by omega)
    have hTb := tally_bd w m ((l.take k).map (·.2.1)) (T[(bkt w m l[k].2.1).toNat]'(by omega)) (by rw [hT]; exact List.getElem_mem _)
    simp only [List.length_map, List.length_take] at hTb
    refine ld_int0 (i := bkt w m l[k].2.1) (x := T[(bkt w m l[k].2.1).toNat]'(by omega)) (o2.row.ext u3) hbd.1 hgt (let_to ?_)
    rw [wrap_i64 (by omega) (by omega)]
    refine own_set encI64 (o2.ext u3) (k := (bkt w m l[k].2.1).toNat) (by omega) (by omega) (x := T[(bkt w m l[k].2.1).toNat]'(by omega) + 1) rfl fun g4 o4 os4 _ y4 => let_to ?_
    rw [wrap_i64 (by omega) (by omega)]
    refine hR _ ⟨k + 1, by simp, by omega, ?_, ?_⟩ (by simp only; omega)
    · rw [← htk, List.map_append, List.map_singleton, tally_snoc, hT, bump, hgt]; exact o4
    · exact ((e2.trans u3).bel.trans ((os4.bel_of (o2.ext u3) (by have := e2.size; have := u3.size; omega)))).ext
  · rw [r.len] at hge
    have : k = l.length := by omega
    subst this
    rw [List.take_length] at o2
    exact hk _ _ o2.row e2
theorem lives45 {h : Hp} {K : Bool → Hp → Prop} (hk : ∀ h', Ext h h' → K true h') : C_law45_lives h K := by
  refine F_law45_lives_ok _ _ (push_to fun h1 w1 u1 y1 => let_to ?_)
  refine r_Buckets (s := ⟨_, 3, 3⟩) (l := [(0, 0, ()), (0, 3, ()), (0, 9, ())]) (Blk.row (encA (l := HIT) rfl) w1 (l := [(0, 0, ()), (0, 3, ()), (0, 9, ())]) (cap := 3) (by simp) rfl) (by simp) (by omega) (fun x hx => by simp at hx; rcases hx with rfl | rfl | rfl <;> simp) (by omega) (by omega) fun h2 s2 r2 u2 => ?_
  refine push_to fun h3 w3 u3 y3 => let_to ?_
  refine ref_Ints (la := [2, 1]) (sb := ⟨_, 2, 2⟩) (lb := [2, 1]) ?_ (Blk.row encI64 w3 (l := [2, 1]) (cap := 2) (by simp) rfl) (by simp) fun t ht => ?_
  · have := r2.ext u3
    rwa [show tally 4 2 (List.map (fun x : StA HIT => x.2.1) [(0, 0, ()), (0, 3, ()), (0, 9, ())]) = [2, 1] by decide] at this
  · rw [ht.2 rfl]; exact hk _ (u1.trans (u2.trans u3))

theorem set_sum : ∀ {t : List Int} {b : Nat} {y x : Int}, t[b]? = some y → (t.set b x).sum = t.sum - y + x
  | [], _, _, _, h => by cases h
  | z :: t, 0, y, x, h => by simp at h; subst h; simp; omega
  | z :: t, b + 1, y, x, h => by
    have := set_sum (t := t) (b := b) (y := y) (x := x) (by simpa using h)
    simp only [List.set_cons_succ, List.sum_cons, this]; omega
theorem tally_sum {w m : Int} (hm : 1 ≤ m) (ds : List Int) : (tally w m ds).sum = ds.length := by
  have key : ∀ (ds t : List Int), t.length = m.toNat → (ds.foldl (fun t d => bump t (bkt w m d).toNat) t).sum = t.sum + ds.length := by
    intro ds
    induction ds with
    | nil => intro t _; simp
    | cons d ds ih =>
      intro t ht
      have hb := bkt_bd (w := w) (d := d) hm
      have hg : t[(bkt w m d).toNat]? = some (t[(bkt w m d).toNat]'(by omega)) := List.getElem?_eq_getElem (by omega)
      rw [List.foldl_cons, ih _ (by unfold bump; simpa using ht)]
      unfold bump
      rw [hg]
      simp only [Option.getD_some]
      rw [set_sum hg, List.length_cons]
      omega
  have := key ds (List.replicate m.toNat 0) (by simp)
  unfold tally
  rw [this]
  have h0 : ∀ n : Nat, (List.replicate n (0 : Int)).sum = 0 := fun n => by
    induction n with
    | zero => rfl
    | succ n ih => rw [List.replicate_succ, List.sum_cons, ih]; rfl
  rw [h0]; omega
theorem pre_sum {t : List Int} (h : ∀ x ∈ t, 0 ≤ x) (k : Nat) : 0 ≤ (t.take k).sum ∧ (t.take k).sum ≤ t.sum := by
  have nn : ∀ l : List Int, (∀ x ∈ l, 0 ≤ x) → 0 ≤ l.sum := by
    intro l
    induction l with
    | nil => intro _; simp
    | cons x l ih => intro h; have h1 := h x (by simp); have h2 := ih fun y hy => h y (by simp [hy]); rw [List.sum_cons]; omega
  have e : t.sum = (t.take k).sum + (t.drop k).sum := by rw [← List.sum_append, List.take_append_drop]
  have h1 := nn (t.take k) fun x hx => h x (List.mem_of_mem_take hx)
  have h2 := nn (t.drop k) fun x hx => h x (List.mem_of_mem_drop hx)
  omega
theorem ref_Bucket {d w m : Int} {h : Hp} {K : Int → Hp → Prop} (hw : -9223372036854775808 ≤ w ∧ w ≤ 9223372036854775807) (hd : -9223372036854775808 ≤ d ∧ d ≤ 9223372036854775807) (hm : 1 ≤ m ∧ m ≤ 1000) (hK : K (bkt w m d) h) : C_ref45_Bucket d w m h K := by
  have key : ∀ c : Int, 1 ≤ c → c = (if 1 > w then 1 else w) → J1_ref45_Bucket d m K (c, ()) h := by
    intro c hc hcw
    unfold bkt at hK
    rw [← hcw] at hK
    unfold J1_ref45_Bucket
    dsimp only
    have hq := tdiv_bd hc hd
    refine cnd_dec.2 ⟨fun hneg => ?_, fun hpos => ⟨by omega, let_to ?_⟩⟩
    · have hq0 : Int.tdiv d c ≤ 0 := by
        have e : d = -(-d) := by omega
        rw [e, Int.neg_tdiv, Int.tdiv_eq_ediv_of_nonneg (by omega)]
        have := Int.ediv_nonneg (a := -d) (b := c) (by omega) (by omega)
        omega
      refine at_val hK ?_
      (repeat' split) <;> omega
    · have hq0 : 0 ≤ Int.tdiv d c := by
        rw [Int.tdiv_eq_ediv_of_nonneg (by omega)]
        exact Int.ediv_nonneg (by omega) (by omega)
      rw [wrap_i64 hq.1 hq.2]
      refine cnd_dec.2 ⟨fun hge => let_to ?_, fun hlt => ?_⟩
      · rw [wrap_i64 (by omega) (by omega)]
        refine at_val hK ?_
        (repeat' split) <;> omega
      · refine at_val hK ?_
        (repeat' split) <;> omega
  refine F_ref45_Bucket_ok _ _ _ _ _ ?_
  unfold F_ref45_Bucket
  rw [Jn_eq]
  refine cnd_dec.2 ⟨fun hlt => key 1 (by omega) (by rw [if_pos (by omega)]), fun hge => key w (by omega) (by rw [if_neg (by omega)])⟩
end Go.Proofs.YthongmodndidkaaF
