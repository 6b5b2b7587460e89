/- The functions of package heap, for elements of one type. No condition. -/
import Derived.Test.YtlbpmophbmbfiaaF
import Derived.Test.YtlbpmophbmbfiaaHits
namespace Go.Proofs.YtlbpmophbmbfiaaF
open Go Go.Proofs.YtlbpmophbmbfiaaK
set_option linter.unusedSimpArgs false
set_option linter.unusedVariables false

abbrev hHArg (x : (StA HT)) : Value := .agg #[.int .u64 x.1, .int .i64 x.2.1]
theorem hH_swap {p : Nat} {v : Value} {s : Sl} {l : List (StA HT)} {h : Hp} {i k : Nat} {K : Hp → Prop} (q : HQ (vsA HT) 2 16 h p v s l) (hi : i < l.length) (hk : k < l.length) (hK : ∀ h', HQ (vsA HT) 2 16 h' p v s (swp l i k) → OnlyS s h h' → K h') :
    C_heap_Heap_api_Hit_swap (some ⟨p, 0, none⟩) i k h K := by
  obtain ⟨b, o, bd⟩ := id q
  have hx : l[i]? = some l[i] := List.getElem?_eq_getElem hi
  have hy : l[k]? = some l[k] := List.getElem?_eq_getElem hk
  refine F_heap_Heap_api_Hit_swap_ok _ _ _ _ _ (ldA_blk (s := .sl) (i := 1) (x := s) b rfl (ldA_blk (s := .sl) (i := 1) (x := s) b rfl (ldA_blk (s := .sl) (i := 1) (x := s) b rfl ?_)))
  refine ld_row (i := (k : Int)) (x := l[k]) o.row (by omega) (by rw [Int.toNat_natCast]; exact hy) fun a ha hc => ?_
  refine ldA_row0 hc rfl (ldA_row hc rfl (ldA_blk (s := .sl) (i := 1) (x := s) b rfl ?_))
  refine ld_row (i := (i : Int)) (x := l[i]) o.row (by omega) (by rw [Int.toNat_natCast]; exact hx) fun a2 ha2 hc2 => ?_
  refine ldA_row0 hc2 rfl (ldA_row hc2 rfl (?_))
  refine own_put encHT (by decide) o rfl hi l[k] fun h1 o1 u1 r1 z1 => own_put encHT (by decide) o1 rfl (by simpa using hk) l[i] fun h2 o2 u2 r2 z2 => ?_
  rw [← swp_eq hx hy] at o2
  exact hK h2 (q.turn o2 (u1.trans u2) (swp_len _ _ _)) (u1.trans u2)

theorem hH_first {p : Nat} {v : Value} {s : Sl} {l : List (StA HT)} {h : Hp} {cmp : (StA HT) → (StA HT) → Int} {le : (StA HT) → (StA HT) → Prop} (hv : OrdV Try.prog v hHArg cmp) (hc : ∀ x y, cmp x y < 0 ↔ ¬ le y x) (ht : Tot le) {i : Nat} {K : Int → Hp → Prop} (q : HQ (vsA HT) 2 16 h p v s l) (hi : i < l.length)
    (hK : ∀ (o : Nat) h', Ext h h' → HQ (vsA HT) 2 16 h' p v s l → Fst le l i o → K o h') : C_heap_Heap_api_Hit_first (some ⟨p, 0, none⟩) i h K := by
  have hbd := q.bd
  refine F_heap_Heap_api_Hit_first_ok _ _ _ _ ?_
  unfold F_heap_Heap_api_Hit_first
  simp only [Let_eq]
  rw [wrap_i64 (x := (2 : Int) * i) (by omega) (by omega), wrap_i64 (by omega) (by omega)]
  refine Lp.inv (fun st => ∃ o k : Nat, st.1.1 = (o : Int) ∧ st.1.2.1 = (k : Int) ∧ 2 * i + 1 ≤ k ∧ k ≤ 2 * i + 3 ∧ o < l.length ∧ (o = i ∨ 0 < o ∧ (o - 1) / 2 = i) ∧
    (∀ j y x, (j = i ∨ 2 * i + 1 ≤ j ∧ j < k) → l[j]? = some y → l[o]? = some x → le x y) ∧ Ext h st.2 ∧ HQ (vsA HT) 2 16 st.2 p v s l) (fun st => 2 * i + 3 - st.1.2.1.toNat) ?_
    ⟨i, 2 * i + 1, rfl, by simp, by omega, by omega, hi, .inl rfl, ?_, Ext.refl _, q⟩
  · rintro ⟨⟨o, k, ⟨⟩⟩, h1⟩ R ⟨o, k, rfl, rfl, hk1, hk2, hol, hoi, hmin, e1, q1⟩ hR
    simp only at hk1 hk2 hol hoi hmin e1 q1
    unfold L1_heap_Heap_api_Hit_first
    dsimp only
    simp only [Let_eq, Jn_eq]
    rw [wrap_i64 (x := (2 : Int) * i) (by omega) (by omega), wrap_i64 (x := (2 : Int) * i + 2) (by omega) (by omega)]
    have fin : ({j : Nat} → l.length ≤ k ∨ 2 * i + 2 < k → K o h1) := fun hd => hK o h1 e1 q1 ⟨hol, hoi, fun j y x hj hy hx => hmin j y x (hj.imp id fun hj => by
      have := (List.getElem?_eq_some_iff.1 hy).1
      omega) hy hx⟩
    refine cnd_dec.2 ⟨fun hle => ldA_blk (s := .sl) (i := 1) (x := s) q1.b rfl (cnd_dec.2 ⟨fun hlt => ?_, fun hge => fin (j := 0) (.inl (by have := q1.o.row.len; omega))⟩), fun hgt => fin (j := 0) (.inr (by omega))⟩
    have hkl : k < l.length := by have := q1.o.row.len; omega
    unfold J1_heap_Heap_api_Hit_first
    dsimp only
    have hx : l[k]? = some l[k] := List.getElem?_eq_getElem hkl
    have hy : l[o]? = some l[o] := List.getElem?_eq_getElem hol
    refine ldA_blk (s := .raw) (i := 0) (x := v) q1.b rfl (ldA_blk (s := .sl) (i := 1) (x := s) q1.b rfl ?_)
    refine ld_row (i := (k : Int)) (x := l[k]) q1.o.row (by omega) (by rw [Int.toNat_natCast]; exact hx) fun a ha hc1 => ?_
    refine ldA_row0 hc1 rfl (ldA_row hc1 rfl (ldA_blk (s := .sl) (i := 1) (x := s) q1.b rfl ?_))
    refine ld_row (i := (o : Int)) (x := l[o]) q1.o.row (by omega) (by rw [Int.toNat_natCast]; exact hy) fun a2 ha2 hc2 => ?_
    refine ldA_row0 hc2 rfl (ldA_row hc2 rfl (?_))
    refine callV.mono (hv.2 l[k] l[o] h1 (fun r h' => r = cmp l[k] l[o] ∧ Ext h1 h') fun h' e => ⟨rfl, e⟩) ?_
    rintro ⟨r, ⟨⟩⟩ h2 ⟨hr, e2⟩
    simp only at hr
    subst hr
    simp only [Let_eq]
    rw [wrap_i64 (x := (k : Int) + 1) (by omega) (by omega)]
    refine cnd_dec.2 ⟨fun hneg => ?_, fun hpos => ?_⟩
    · have hn := (hc _ _).1 hneg
      have hle2 : le l[k] l[o] := (ht.tot l[o] l[k]).resolve_left hn
      refine hR _ ⟨k, k + 1, rfl, by simp, by omega, by omega, hkl, .inr ⟨by omega, by omega⟩, fun j y x hj hjy hjx => ?_, e1.trans e2, q1.ext e2⟩ (by simp only; omega)
      rw [hx] at hjx; cases hjx
      by_cases ej : j = k
      · subst ej; rw [hx] at hjy; cases hjy; exact ht.refl _
      · exact ht.tr _ _ _ hle2 (hmin j y _ (by omega) hjy hy)
    · have hle2 : le l[o] l[k] := Classical.byContradiction fun hn => hpos ((hc _ _).2 hn)
      refine hR _ ⟨o, k + 1, rfl, by simp, by omega, by omega, hol, hoi, fun j y x hj hjy hjx => ?_, e1.trans e2, q1.ext e2⟩ (by simp only; omega)
      by_cases ej : j = k
      · subst ej; rw [hx] at hjy; rw [hy] at hjx; cases hjx; cases hjy; exact hle2
      · exact hmin j y x (by omega) hjy hjx
  · rintro j y x hj hy hx
    obtain rfl : j = i := by omega
    rw [hy] at hx; cases hx; exact ht.refl _

theorem hH_down {p : Nat} {v : Value} {s : Sl} {l : List (StA HT)} {h : Hp} {cmp : (StA HT) → (StA HT) → Int} {le : (StA HT) → (StA HT) → Prop} (hv : OrdV Try.prog v hHArg cmp) (hc : ∀ x y, cmp x y < 0 ↔ ¬ le y x) (ht : Tot le) {i : Nat} {K : Hp → Prop} (q : HQ (vsA HT) 2 16 h p v s l) (hi : i < l.length) (d : DownOk le l i)
    (hK : ∀ l' h', HQ (vsA HT) 2 16 h' p v s l' → HeapL le l' → l'.Perm l → OnlyS s h h' → K h') : C_heap_Heap_api_Hit_down (some ⟨p, 0, none⟩) i h K := by
  refine F_heap_Heap_api_Hit_down_ok _ _ _ _ (hH_first hv hc ht q hi fun o h1 e1 q1 f1 => ?_)
  refine Lp.inv (fun st => ∃ (i k : Nat) (l' : List (StA HT)), st.1.1 = (i : Int) ∧ st.1.2.1 = (k : Int) ∧ i < l'.length ∧ HQ (vsA HT) 2 16 st.2 p v s l' ∧ DownOk le l' i ∧ Fst le l' i k ∧ l'.Perm l ∧ OnlyS s h st.2) (fun st => l.length - st.1.1.toNat) ?_
    ⟨i, o, l, rfl, rfl, hi, q1, d, f1, List.Perm.refl _, e1.onlyS s⟩
  rintro ⟨⟨i, k, ⟨⟩⟩, h2⟩ R ⟨i, k, l', rfl, rfl, hi', q2, d2, f2, pm, u2⟩ hR
  simp only at hi' q2 d2 f2 pm u2
  unfold L1_heap_Heap_api_Hit_down
  dsimp only
  have hkl := f2.lt
  refine cnd_bne.2 ⟨fun hne => ?_, fun heq => ?_⟩
  · have hk := f2.at_.resolve_left (by omega)
    have hx : l'[k]? = some l'[k] := List.getElem?_eq_getElem hkl
    refine hH_swap q2 hi' hkl fun h3 q3 u3 => ?_
    have d3 := d2.step ht hk.1 hk.2 hkl hx (fun j y hj hp hy => f2.min j y _ (.inr ⟨hj, hp⟩) hy hx) (fun y hy => f2.min i y _ (.inl rfl) hy hx)
    refine hH_first hv hc ht q3 (by rw [swp_len]; exact hkl) fun o4 h4 e4 q4 f4 => ?_
    refine hR _ ⟨k, o4, swp l' i k, rfl, rfl, by rw [swp_len]; exact hkl, q4, d3, f4, (swp_perm _ _ _).trans pm, u2.trans (u3.trans (e4.onlyS s))⟩ ?_
    have := pm.length_eq
    simp only; omega
  · obtain rfl : k = i := by omega
    exact hK l' h2 q2 (d2.done fun j x y hj hp hx hy => f2.min j y x (.inr ⟨hj, hp⟩) hy hx) pm u2

theorem hH_up {p : Nat} {v : Value} {s : Sl} {l : List (StA HT)} {h : Hp} {cmp : (StA HT) → (StA HT) → Int} {le : (StA HT) → (StA HT) → Prop} (hv : OrdV Try.prog v hHArg cmp) (hc : ∀ x y, cmp x y ≤ 0 ↔ le x y) (ht : Tot le) {i : Nat} {K : Hp → Prop} (q : HQ (vsA HT) 2 16 h p v s l) (hi : i < l.length) (d : UpOk le l i)
    (hK : ∀ l' h', HQ (vsA HT) 2 16 h' p v s l' → HeapL le l' → l'.Perm l → OnlyS s h h' → K h') : C_heap_Heap_api_Hit_up (some ⟨p, 0, none⟩) i h K := by
  have hbd := q.bd
  refine F_heap_Heap_api_Hit_up_ok _ _ _ _ ?_
  refine Lp.inv (fun st => ∃ (i : Nat) (l' : List (StA HT)), st.1.1 = (i : Int) ∧ i < l'.length ∧ HQ (vsA HT) 2 16 st.2 p v s l' ∧ UpOk le l' i ∧ l'.Perm l ∧ OnlyS s h st.2) (fun st => st.1.1.toNat) ?_
    ⟨i, l, rfl, hi, q, d, List.Perm.refl _, OnlyS.refl _ _⟩
  rintro ⟨⟨i, ⟨⟩⟩, h2⟩ R ⟨i, l', rfl, hi', q2, d2, pm, u2⟩ hR
  simp only at hi' q2 d2 pm u2
  unfold L1_heap_Heap_api_Hit_up
  dsimp only
  refine cnd_dec.2 ⟨fun hpos => ?_, fun hz => hK l' h2 q2 (d2.done (.inl (by omega))) pm u2⟩
  have hi0 : 0 < i := by omega
  have hbd2 := q2.bd
  simp only [Let_eq]
  rw [wrap_i64 (x := (i : Int) - 1) (by omega) (by omega)]
  have hdiv : Int.tdiv ((i : Int) - 1) 2 = (((i - 1) / 2 : Nat) : Int) := by
    rw [show (i : Int) - 1 = ((i - 1 : Nat) : Int) by omega]; rfl
  rw [hdiv, wrap_i64 (by omega) (by omega)]
  have hx : l'[(i - 1) / 2]? = some l'[(i - 1) / 2] := List.getElem?_eq_getElem (by omega)
  have hy : l'[i]? = some l'[i] := List.getElem?_eq_getElem hi'
  refine ⟨by decide, ldA_blk (s := .raw) (i := 0) (x := v) q2.b rfl (ldA_blk (s := .sl) (i := 1) (x := s) q2.b rfl ?_)⟩
  refine ld_row (i := (((i - 1) / 2 : Nat) : Int)) (x := l'[(i - 1) / 2]) q2.o.row (by omega) (by rw [Int.toNat_natCast]; exact hx) fun a ha hc1 => ?_
  refine ldA_row0 hc1 rfl (ldA_row hc1 rfl (ldA_blk (s := .sl) (i := 1) (x := s) q2.b rfl ?_))
  refine ld_row (i := (i : Int)) (x := l'[i]) q2.o.row (by omega) (by rw [Int.toNat_natCast]; exact hy) fun a2 ha2 hc2 => ?_
  refine ldA_row0 hc2 rfl (ldA_row hc2 rfl (?_))
  refine callV.mono (hv.2 l'[(i - 1) / 2] l'[i] h2 (fun r h' => r = cmp l'[(i - 1) / 2] l'[i] ∧ Ext h2 h') fun h' e => ⟨rfl, e⟩) ?_
  rintro ⟨r, ⟨⟩⟩ h3 ⟨hr, e3⟩
  simp only at hr
  subst hr
  refine cnd_dec.2 ⟨fun hle => hK l' h3 (q2.ext e3) (d2.done (.inr fun x y h4 h5 => ?_)) pm (u2.trans (e3.onlyS s)), fun hgt => ?_⟩
  · rw [hx] at h4; rw [hy] at h5; cases h4; cases h5; exact (hc _ _).1 hle
  · refine hH_swap (k := (i - 1) / 2) (q2.ext e3) hi' (by omega) fun h4 q4 u4 => hR _ ⟨(i - 1) / 2, _, rfl, by rw [swp_len]; omega, q4, d2.step ht hi0 hi' hx hy fun hle => hgt ((hc _ _).2 hle), (swp_perm _ _ _).trans pm, u2.trans ((e3.onlyS s).trans u4)⟩ (by simp only; omega)

/-- What a push leaves. -/
theorem hH_Push {p : Nat} {v : Value} {s : Sl} {l : List (StA HT)} {h : Hp} {cmp : (StA HT) → (StA HT) → Int} {le : (StA HT) → (StA HT) → Prop} (hv : OrdV Try.prog v hHArg cmp) (hc : ∀ x y, cmp x y ≤ 0 ↔ le x y) (ht : Tot le) {x : (StA HT)} {K : Hp → Prop} (q : HQ (vsA HT) 2 16 h p v s l) (hp : HeapL le l) (hb : (l.length + 1) * 16 ≤ 140737488355328)
    (hK : ∀ s' l' h', HQ (vsA HT) 2 16 h' p v s' l' → HeapL le l' → l'.Perm (x :: l) → OnlyP p s h h' → (s'.a = s.a ∨ ∃ b, s'.a = some ⟨b, 0, none⟩ ∧ h.size ≤ b) → K h') : C_heap_Heap_api_Hit_Push (some ⟨p, 0, none⟩) x.1 x.2.1 h K := by
  refine F_heap_Heap_api_Hit_Push_ok _ _ _ _ _ (push_to fun h1 b1 e1 z1 => let_to (ldA_blk (s := .sl) (i := 1) (x := s) (q.b.ext e1) rfl (ldA_blk (s := .int .u64) (x := x.1) b1 rfl (ldA_blk (s := .int .i64) (i := 1) (x := x.2.1) b1 rfl (?_)))))
  have hplt0 := q.b.lt
  refine app1x encHT (by decide) (q.o.ext e1) (by have := e1.size; omega) hb (by decide) rfl x rfl fun s' h2 o2 os _ hn => ?_
  have hne : ∀ a, s'.a = some a → a.block ≠ p := fun a ha => by have := o2.above a ha; omega
  have b2 : Blk h2 p #[v, .slice s.a s.len s.cap] := (q.b.ext e1).onlyS os fun a ha => q.apart a ha
  have hplt := b2.lt
  refine ⟨rfl, set_to b2 (i := 1) (by simp) fun h3 b3 u3 k3 z3 => ?_⟩
  simp only [List.setIfInBounds_toArray, List.set_cons_succ, List.set_cons_zero] at b3
  refine ldA_blk (s := .sl) (i := 1) (x := s') b3 rfl ?_
  have o3 : OwnRow (vsA HT) 2 (p + 1) h3 s' (l ++ [x]) := o2.only u3 (by omega)
  have q3 : HQ (vsA HT) 2 16 h3 p v s' (l ++ [x]) := ⟨b3, o3, by simpa using hb⟩
  have hl : (s'.len : Int) = (l.length : Int) + 1 := by have := o3.row.len; rw [List.length_append] at this; simp at this; omega
  simp only [Let_eq]
  rw [hl, wrap_i64 (x := (l.length : Int) + 1 - 1) (by omega) (by omega), show (l.length : Int) + 1 - 1 = ((l.length : Nat) : Int) by omega]
  refine hH_up hv hc ht q3 (by simp) (hp.snoc x) fun l' h4 q4 hl4 pm u4 => ?_
  have up3 : OnlyP p s h h3 := (e1.onlyP p s).trans ((os.onlyP p).trans (u3.onlyP s))
  exact hK s' l' h4 q4 hl4 (pm.trans (List.perm_append_singleton x l)) (OnlyP.transN up3 (u4.onlyP p) (Nat.le_refl _) (hn.imp id fun ⟨b, h5, h6⟩ => ⟨b, h5, by have := e1.size; omega⟩)) (hn.imp id fun ⟨b, h5, h6⟩ => ⟨b, h5, by have := e1.size; omega⟩)

theorem hH_Push_nil {x : (StA HT)} {h : Hp} {K : Hp → Prop} (hK : ∀ h', Ext h h' → K h') : C_heap_Heap_api_Hit_Push none x.1 x.2.1 h K := by
  refine F_heap_Heap_api_Hit_Push_ok _ _ _ _ _ (push_to fun h1 b1 e1 z1 => let_to (hK _ e1))

theorem hH_Top_zero {a : Option Addr} {K : Int → Int → Bool → Hp → Prop} {h : Hp} {pb : Nat} {c0 : Array Value} (b : Blk h pb c0) (hc0 : c0.size = 2) {h0 : Hp} (e0 : Ext h0 h) (hpb : h0.size ≤ pb) (hK : ∀ h', Ext h0 h' → K 0 0 false h') : J1_heap_Heap_api_Hit_Top a K ⟨pb, 0, none⟩ (true, ()) h := by
  unfold J1_heap_Heap_api_Hit_Top
  refine cnd_yes rfl (push_to fun h1 b1 e1 z1 => let_to (ldA_blk (s := .int .u64) (i := 0) (x := 0) b1 rfl (ldA_blk (s := .int .i64) (i := 1) (x := 0) b1 rfl (?_))))
  refine stores_blk (vs := [.int .u64 0, .int .i64 0]) (b.ext e1) (by rw [hc0]; rfl) fun h2 b2 u2 k2 z2 => ?_
  refine ldA_blk (s := .int .u64) (i := 0) (x := 0) b2 rfl (ldA_blk (s := .int .i64) (i := 1) (x := 0) b2 rfl (?_))
  exact hK _ ((e0.trans e1).only_new u2 hpb)
theorem hH_Top {p : Nat} {v : Value} {s : Sl} {l : List (StA HT)} {h : Hp} {K : Int → Int → Bool → Hp → Prop} (q : HQ (vsA HT) 2 16 h p v s l) (h0 : l = [] → ∀ h', Ext h h' → K 0 0 false h') (h1 : ∀ x, l[0]? = some x → ∀ h', Ext h h' → K x.1 x.2.1 true h') : C_heap_Heap_api_Hit_Top (some ⟨p, 0, none⟩) h K := by
  refine F_heap_Heap_api_Hit_Top_ok _ _ _ (push_to fun g1 b1 e1 z1 => let_to (ldA_blk (s := .sl) (i := 1) (x := s) (q.b.ext e1) rfl ?_))
  have hl := q.o.row.len
  rcases Nat.eq_zero_or_pos l.length with hz | hpos
  · rw [show ((s.len : Int) == 0) = true by rw [hl, hz]; rfl]
    exact hH_Top_zero b1 rfl e1 (Nat.le_refl _) (h0 (List.length_eq_zero_iff.1 hz))
  · rw [show ((s.len : Int) == 0) = false by rw [beq_eq_false_iff_ne]; omega]
    unfold J1_heap_Heap_api_Hit_Top
    have hx : l[0]? = some l[0] := List.getElem?_eq_getElem hpos
    refine cnd_no rfl (ldA_blk (s := .sl) (i := 1) (x := s) (q.b.ext e1) rfl (ld_row (i := 0) (x := l[0]) (q.o.row.ext e1) (by omega) hx fun a ha hc => ldA_row0 hc rfl (ldA_row hc rfl (?_))))
    refine stores_blk (vs := (vsA HT) l[0]) b1 rfl fun h2 b2 u2 k2 z2 => ?_
    refine ldA_blk (s := .int .u64) (i := 0) (x := l[0].1) b2 rfl (ldA_blk (s := .int .i64) (i := 1) (x := l[0].2.1) b2 rfl (?_))
    exact h1 _ hx _ (e1.only_new u2 (Nat.le_refl _))
theorem hH_Top_nil {h : Hp} {K : Int → Int → Bool → Hp → Prop} (hK : ∀ h', Ext h h' → K 0 0 false h') : C_heap_Heap_api_Hit_Top none h K := by
  refine F_heap_Heap_api_Hit_Top_ok _ _ _ (push_to fun g1 b1 e1 z1 => let_to ?_)
  exact hH_Top_zero (a := none) b1 rfl e1 (Nat.le_refl _) hK

theorem hH_Pop {p : Nat} {v : Value} {s : Sl} {l : List (StA HT)} {h : Hp} {cmp : (StA HT) → (StA HT) → Int} {le : (StA HT) → (StA HT) → Prop} (hv : OrdV Try.prog v hHArg cmp) (hcl : ∀ x y, cmp x y < 0 ↔ ¬ le y x) (ht : Tot le) {K : Int → Int → Bool → Hp → Prop} (q : HQ (vsA HT) 2 16 h p v s l) (hp : HeapL le l) (h0 : l = [] → ∀ h', Ext h h' → K 0 0 false h')
    (h1 : ∀ x, l[0]? = some x → ∀ s' l' h', HQ (vsA HT) 2 16 h' p v s' l' → HeapL le l' → (x :: l').Perm l → OnlyP p s h h' → s'.a = s.a → K x.1 x.2.1 true h') : C_heap_Heap_api_Hit_Pop (some ⟨p, 0, none⟩) h K := by
  refine F_heap_Heap_api_Hit_Pop_ok _ _ _ (push_to fun g1 b1 e1 z1 => let_to (hH_Top (q.ext e1) (fun hz h3 e3 => ?_) fun x hx h3 e3 => ?_))
  · refine push_to fun g2 b2 e2 z2 => let_to ?_
    refine stores_blk (vs := [.int .u64 0, .int .i64 0]) b2 rfl fun g3 b3 u3 _ z3 => ?_
    simp only [List.take_zero, List.nil_append] at b3
    refine ldA_blk (s := .int .u64) (i := 0) (x := 0) b3 rfl (ldA_blk (s := .int .i64) (i := 1) (x := 0) b3 rfl (?_))
    have x3 := e3.size
    have c1 := ((b1.ext e3).ext e2).only u3 (by omega)
    refine stores_blk (vs := [.int .u64 0, .int .i64 0]) c1 rfl fun g4 b4 u4 _ z4 => ?_
    simp only [List.take_zero, List.nil_append] at b4
    refine ldA_blk (s := .int .u64) (i := 0) (x := 0) b4 rfl (ldA_blk (s := .int .i64) (i := 1) (x := 0) b4 rfl (?_))
    exact h0 hz _ (((e1.trans (e3.trans e2)).only_new u3 (by have := e1.size; omega)).only_new u4 (Nat.le_refl _))
  refine push_to fun g2 b2 e2 z2 => let_to ?_
  refine stores_blk (vs := [.int .u64 x.1, .int .i64 x.2.1]) b2 rfl fun g3 b3 u3 _ z3 => ?_
  simp only [List.take_zero, List.nil_append] at b3
  have x1 := e1.size
  have x3 := e3.size
  have hplt0 := q.b.lt
  have ex3 : Ext h g3 := (e1.trans (e3.trans e2)).only_new u3 (by omega)
  have q3 : HQ (vsA HT) 2 16 g3 p v s l := q.ext ex3
  have c1 : Blk g3 h.size _ := ((b1.ext e3).ext e2).only u3 (by omega)
  have slt : ∀ a, s.a = some a → a.block < h.size := q.o.lt
  have hpos : 0 < l.length := (List.getElem?_eq_some_iff.1 hx).1
  have hl : (s.len : Int) = l.length := by rw [q.o.row.len]
  have hbd := q.bd
  refine ldA_blk (s := .sl) (i := 1) (x := s) q3.b rfl ?_
  refine let_to ?_
  rw [hl, wrap_i64 (x := (l.length : Int) - 1) (by omega) (by omega), show (l.length : Int) - 1 = ((l.length - 1 : Nat) : Int) by omega]
  refine hH_swap (i := 0) (k := l.length - 1) q3 hpos (by omega) fun h4 q4 u4 => ?_
  have hcap := q4.o.row.cap
  have hlen4 : s.len = l.length := by omega
  refine ldA_blk (s := .sl) (i := 1) (x := s) q4.b rfl (slc_to (n := l.length - 1) rfl (by omega) ⟨rfl, set_to q4.b (i := 1) (by simp) fun h5 b5 u5 k5 z5 => ?_⟩)
  simp only [List.setIfInBounds_toArray, List.set_cons_succ, List.set_cons_zero] at b5
  have hplt : p < h4.size := q4.b.lt
  have o5 : OwnRow (vsA HT) 2 (p + 1) h5 ⟨s.a, l.length - 1, s.cap⟩ ((swp l 0 (l.length - 1)).take (l.length - 1)) := (q4.o.take (by rw [swp_len]; omega)).only u5 (by omega)
  have hlt : ((swp l 0 (l.length - 1)).take (l.length - 1)).length = l.length - 1 := by rw [List.length_take, swp_len]; omega
  have q5 : HQ (vsA HT) 2 16 h5 p v ⟨s.a, l.length - 1, s.cap⟩ ((swp l 0 (l.length - 1)).take (l.length - 1)) := ⟨b5, o5, by rw [hlt]; omega⟩
  have d5 := hp.popped hpos
  have pm5 := popped_perm hx
  have up5 : OnlyP p s h h5 := (ex3.onlyP p s).trans ((u4.onlyP p).trans (u5.onlyP s))
  have ub : OnlyP p s g3 h5 := (u4.onlyP p).trans (u5.onlyP s)
  have a1 := c1.onlyP ub (by omega) fun a ha => by have := slt a ha; omega
  have a3 := b3.onlyP ub (by omega) fun a ha => by have := slt a ha; omega
  have fin : ∀ (h6 : Hp) (l' : List (StA HT)), HQ (vsA HT) 2 16 h6 p v ⟨s.a, l.length - 1, s.cap⟩ l' → HeapL le l' → (x :: l').Perm l → OnlyS s h5 h6 → ∀ h7, Only h.size h6 h7 → K x.1 x.2.1 true h7 := fun h6 l' q6 hl6 pm6 u6 h7 w7 => by
    have sz6 := u6.1
    have sz5 := up5.1
    refine h1 x hx ⟨s.a, l.length - 1, s.cap⟩ l' h7 (q6.only w7 (by omega) fun a ha => by have := slt a ha; omega) hl6 pm6 ?_ rfl
    have t6 := up5.trans (u6.onlyP p)
    exact ⟨by have := t6.1; have := w7.size; omega, fun i hi hp2 hn => (w7.get i (by have := t6.1; omega) (by omega)).trans (t6.2 i hi hp2 hn)⟩
  refine cnd_dec.2 ⟨fun hgt => ?_, fun hle => ?_⟩
  · refine hH_down (i := 0) hv hcl ht q5 (by rw [hlt]; omega) d5 fun l' h6 q6 hl6 pm6 u6 => ?_
    have u6' : OnlyS s h5 h6 := u6
    have a1' := a1.onlyS u6' fun a ha => by have := slt a ha; omega
    have a3' := a3.onlyS u6' fun a ha => by have := slt a ha; omega
    refine ldA_blk (s := .int .u64) (i := 0) (x := x.1) a3' rfl (ldA_blk (s := .int .i64) (i := 1) (x := x.2.1) a3' rfl (?_))
    refine stores_blk (vs := [.int .u64 x.1, .int .i64 x.2.1]) a1' rfl fun h7 b7 w7 _ _ => ?_
    simp only [List.take_zero, List.nil_append] at b7
    refine ldA_blk (s := .int .u64) (i := 0) (x := x.1) b7 rfl (ldA_blk (s := .int .i64) (i := 1) (x := x.2.1) b7 rfl (?_))
    exact fin h6 l' q6 hl6 ((pm6.cons x).trans pm5) u6' h7 w7
  · refine ldA_blk (s := .int .u64) (i := 0) (x := x.1) a3 rfl (ldA_blk (s := .int .i64) (i := 1) (x := x.2.1) a3 rfl (?_))
    refine stores_blk (vs := [.int .u64 x.1, .int .i64 x.2.1]) a1 rfl fun h7 b7 w7 _ _ => ?_
    simp only [List.take_zero, List.nil_append] at b7
    refine ldA_blk (s := .int .u64) (i := 0) (x := x.1) b7 rfl (ldA_blk (s := .int .i64) (i := 1) (x := x.2.1) b7 rfl (?_))
    refine fin h5 _ q5 (fun j a b hj ha hb => ?_) pm5 (OnlyS.refl _ _) h7 w7
    have := (List.getElem?_eq_some_iff.1 hb).1
    omega

theorem hH_New {v : Value} {h : Hp} {K : Option Addr → Hp → Prop} (hv : oneCell v = true) (hK : ∀ h', Ext h h' → HQ (vsA HT) 2 16 h' h.size v ⟨none, 0, 0⟩ [] → K (some ⟨h.size, 0, none⟩) h') : C_heap_New_api_Hit v h K := by
  refine F_heap_New_api_Hit_ok _ _ _ (oneA_of hv (push_to fun h1 b1 e1 z1 => let_to (hK h1 e1 ⟨b1, OwnRow.nil _ _ _ _, by simp⟩)))
end Go.Proofs.YtlbpmophbmbfiaaF
