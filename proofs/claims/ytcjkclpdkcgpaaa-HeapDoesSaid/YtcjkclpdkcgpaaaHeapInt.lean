/- The functions of package heap, for elements of one type. No condition. -/
import Derived.Test.YtcjkclpdkcgpaaaF
import Derived.Test.YtcjkclpdkcgpaaaK15
namespace Go.Proofs.YtcjkclpdkcgpaaaF
open Go Go.Proofs.YtcjkclpdkcgpaaaK
set_option linter.unusedSimpArgs false
set_option linter.unusedVariables false

theorem encI64 : Enc (encI .i64) 1 := encI_ok _
abbrev hIArg (x : Int) : Value := .int .i64 x
theorem hI_swap {p : Nat} {v : Value} {s : Sl} {l : List Int} {h : Hp} {i k : Nat} {K : Hp → Prop} (q : HQ (encI .i64) 1 8 h p v s l) (hi : i < l.length) (hk : k < l.length) (hK : ∀ h', HQ (encI .i64) 1 8 h' p v s (swp l i k) → OnlyS s h h' → K h') :
    C_heap_Heap_int_swap (some ⟨p, 0, none⟩) i k h K := by
  obtain ⟨b, o, bd⟩ := id q
  have hx : l[i]? = some l[i] := List.getElem?_eq_getElem hi
  have hy : l[k]? = some l[k] := List.getElem?_eq_getElem hk
  refine F_heap_Heap_int_swap_ok _ _ _ _ _ (ldA_blk (s := .sl) (i := 1) (x := s) b rfl (ldA_blk (s := .sl) (i := 1) (x := s) b rfl (ldA_blk (s := .sl) (i := 1) (x := s) b rfl ?_)))
  refine ld_row (i := (k : Int)) (x := l[k]) o.row (by omega) (by rw [Int.toNat_natCast]; exact hy) fun a ha hc => ?_
  refine ldA_row0 hc rfl (ldA_blk (s := .sl) (i := 1) (x := s) b rfl ?_)
  refine ld_row (i := (i : Int)) (x := l[i]) o.row (by omega) (by rw [Int.toNat_natCast]; exact hx) fun a2 ha2 hc2 => ?_
  refine ldA_row0 hc2 rfl (?_)
  refine own_set encI64 o rfl hi (x := l[k]) rfl fun h1 o1 u1 r1 z1 => own_set encI64 o1 rfl (by simpa using hk) (x := l[i]) rfl fun h2 o2 u2 r2 z2 => ?_
  rw [← swp_eq hx hy] at o2
  exact hK h2 (q.turn o2 (u1.trans u2) (swp_len _ _ _)) (u1.trans u2)

theorem hI_first {p : Nat} {v : Value} {s : Sl} {l : List Int} {h : Hp} {cmp : Int → Int → Int} {le : Int → Int → Prop} (hv : OrdV Try.prog v hIArg cmp) (hc : ∀ x y, cmp x y < 0 ↔ ¬ le y x) (ht : Tot le) {i : Nat} {K : Int → Hp → Prop} (q : HQ (encI .i64) 1 8 h p v s l) (hi : i < l.length)
    (hK : ∀ (o : Nat) h', Ext h h' → HQ (encI .i64) 1 8 h' p v s l → Fst le l i o → K o h') : C_heap_Heap_int_first (some ⟨p, 0, none⟩) i h K := by
  have hbd := q.bd
  refine F_heap_Heap_int_first_ok _ _ _ _ ?_
  unfold F_heap_Heap_int_first
  simp only [Let_eq]
  rw [wrap_i64 (x := (2 : Int) * i) (by omega) (by omega), wrap_i64 (by omega) (by omega)]
  refine Lp.inv (fun st => ∃ o k : Nat, st.1.1 = (o : Int) ∧ st.1.2.1 = (k : Int) ∧ 2 * i + 1 ≤ k ∧ k ≤ 2 * i + 3 ∧ o < l.length ∧ (o = i ∨ 0 < o ∧ (o - 1) / 2 = i) ∧
    (∀ j y x, (j = i ∨ 2 * i + 1 ≤ j ∧ j < k) → l[j]? = some y → l[o]? = some x → le x y) ∧ Ext h st.2 ∧ HQ (encI .i64) 1 8 st.2 p v s l) (fun st => 2 * i + 3 - st.1.2.1.toNat) ?_
    ⟨i, 2 * i + 1, rfl, by simp, by omega, by omega, hi, .inl rfl, ?_, Ext.refl _, q⟩
  · rintro ⟨⟨o, k, ⟨⟩⟩, h1⟩ R ⟨o, k, rfl, rfl, hk1, hk2, hol, hoi, hmin, e1, q1⟩ hR
    simp only at hk1 hk2 hol hoi hmin e1 q1
    unfold L1_heap_Heap_int_first
    dsimp only
    simp only [Let_eq, Jn_eq]
    rw [wrap_i64 (x := (2 : Int) * i) (by omega) (by omega), wrap_i64 (x := (2 : Int) * i + 2) (by omega) (by omega)]
    have fin : ({j : Nat} → l.length ≤ k ∨ 2 * i + 2 < k → K o h1) := fun hd => hK o h1 e1 q1 ⟨hol, hoi, fun j y x hj hy hx => hmin j y x (hj.imp id fun hj => by
      have := (List.getElem?_eq_some_iff.1 hy).1
      omega) hy hx⟩
    refine cnd_dec.2 ⟨fun hle => ldA_blk (s := .sl) (i := 1) (x := s) q1.b rfl (cnd_dec.2 ⟨fun hlt => ?_, fun hge => fin (j := 0) (.inl (by have := q1.o.row.len; omega))⟩), fun hgt => fin (j := 0) (.inr (by omega))⟩
    have hkl : k < l.length := by have := q1.o.row.len; omega
    unfold J1_heap_Heap_int_first
    dsimp only
    have hx : l[k]? = some l[k] := List.getElem?_eq_getElem hkl
    have hy : l[o]? = some l[o] := List.getElem?_eq_getElem hol
    refine ldA_blk (s := .raw) (i := 0) (x := v) q1.b rfl (ldA_blk (s := .sl) (i := 1) (x := s) q1.b rfl ?_)
    refine ld_row (i := (k : Int)) (x := l[k]) q1.o.row (by omega) (by rw [Int.toNat_natCast]; exact hx) fun a ha hc1 => ?_
    refine ldA_row0 hc1 rfl (ldA_blk (s := .sl) (i := 1) (x := s) q1.b rfl ?_)
    refine ld_row (i := (o : Int)) (x := l[o]) q1.o.row (by omega) (by rw [Int.toNat_natCast]; exact hy) fun a2 ha2 hc2 => ?_
    refine ldA_row0 hc2 rfl (?_)
    refine callV.mono (hv.2 l[k] l[o] h1 (fun r h' => r = cmp l[k] l[o] ∧ Ext h1 h') fun h' e => ⟨rfl, e⟩) ?_
    rintro ⟨r, ⟨⟩⟩ h2 ⟨hr, e2⟩
    simp only at hr
    subst hr
    simp only [Let_eq]
    rw [wrap_i64 (x := (k : Int) + 1) (by omega) (by omega)]
    refine cnd_dec.2 ⟨fun hneg => ?_, fun hpos => ?_⟩
    · have hn := (hc _ _).1 hneg
      have hle2 : le l[k] l[o] := (ht.tot l[o] l[k]).resolve_left hn
      refine hR _ ⟨k, k + 1, rfl, by simp, by omega, by omega, hkl, .inr ⟨by omega, by omega⟩, fun j y x hj hjy hjx => ?_, e1.trans e2, q1.ext e2⟩ (by simp only; omega)
      rw [hx] at hjx; cases hjx
      by_cases ej : j = k
      · subst ej; rw [hx] at hjy; cases hjy; exact ht.refl _
      · exact ht.tr _ _ _ hle2 (hmin j y _ (by omega) hjy hy)
    · have hle2 : le l[o] l[k] := Classical.byContradiction fun hn => hpos ((hc _ _).2 hn)
      refine hR _ ⟨o, k + 1, rfl, by simp, by omega, by omega, hol, hoi, fun j y x hj hjy hjx => ?_, e1.trans e2, q1.ext e2⟩ (by simp only; omega)
      by_cases ej : j = k
      · subst ej; rw [hx] at hjy; rw [hy] at hjx; cases hjx; cases hjy; exact hle2
      · exact hmin j y x (by omega) hjy hjx
  · rintro j y x hj hy hx
    obtain rfl : j = i := by omega
    rw [hy] at hx; cases hx; exact ht.refl _

theorem hI_down {p : Nat} {v : Value} {s : Sl} {l : List Int} {h : Hp} {cmp : Int → Int → Int} {le : Int → Int → Prop} (hv : OrdV Try.prog v hIArg cmp) (hc : ∀ x y, cmp x y < 0 ↔ ¬ le y x) (ht : Tot le) {i : Nat} {K : Hp → Prop} (q : HQ (encI .i64) 1 8 h p v s l) (hi : i < l.length) (d : DownOk le l i)
    (hK : ∀ l' h', HQ (encI .i64) 1 8 h' p v s l' → HeapL le l' → l'.Perm l → OnlyS s h h' → K h') : C_heap_Heap_int_down (some ⟨p, 0, none⟩) i h K := by
  refine F_heap_Heap_int_down_ok _ _ _ _ (hI_first hv hc ht q hi fun o h1 e1 q1 f1 => ?_)
  refine Lp.inv (fun st => ∃ (i k : Nat) (l' : List Int), st.1.1 = (i : Int) ∧ st.1.2.1 = (k : Int) ∧ i < l'.length ∧ HQ (encI .i64) 1 8 st.2 p v s l' ∧ DownOk le l' i ∧ Fst le l' i k ∧ l'.Perm l ∧ OnlyS s h st.2) (fun st => l.length - st.1.1.toNat) ?_
    ⟨i, o, l, rfl, rfl, hi, q1, d, f1, List.Perm.refl _, e1.onlyS s⟩
  rintro ⟨⟨i, k, ⟨⟩⟩, h2⟩ R ⟨i, k, l', rfl, rfl, hi', q2, d2, f2, pm, u2⟩ hR
  simp only at hi' q2 d2 f2 pm u2
  unfold L1_heap_Heap_int_down
  dsimp only
  have hkl := f2.lt
  refine cnd_bne.2 ⟨fun hne => ?_, fun heq => ?_⟩
  · have hk := f2.at_.resolve_left (by omega)
    have hx : l'[k]? = some l'[k] := List.getElem?_eq_getElem hkl
    refine hI_swap q2 hi' hkl fun h3 q3 u3 => ?_
    have d3 := d2.step ht hk.1 hk.2 hkl hx (fun j y hj hp hy => f2.min j y _ (.inr ⟨hj, hp⟩) hy hx) (fun y hy => f2.min i y _ (.inl rfl) hy hx)
    refine hI_first hv hc ht q3 (by rw [swp_len]; exact hkl) fun o4 h4 e4 q4 f4 => ?_
    refine hR _ ⟨k, o4, swp l' i k, rfl, rfl, by rw [swp_len]; exact hkl, q4, d3, f4, (swp_perm _ _ _).trans pm, u2.trans (u3.trans (e4.onlyS s))⟩ ?_
    have := pm.length_eq
    simp only; omega
  · obtain rfl : k = i := by omega
    exact hK l' h2 q2 (d2.done fun j x y hj hp hx hy => f2.min j y x (.inr ⟨hj, hp⟩) hy hx) pm u2

theorem hI_up {p : Nat} {v : Value} {s : Sl} {l : List Int} {h : Hp} {cmp : Int → Int → Int} {le : Int → Int → Prop} (hv : OrdV Try.prog v hIArg cmp) (hc : ∀ x y, cmp x y ≤ 0 ↔ le x y) (ht : Tot le) {i : Nat} {K : Hp → Prop} (q : HQ (encI .i64) 1 8 h p v s l) (hi : i < l.length) (d : UpOk le l i)
    (hK : ∀ l' h', HQ (encI .i64) 1 8 h' p v s l' → HeapL le l' → l'.Perm l → OnlyS s h h' → K h') : C_heap_Heap_int_up (some ⟨p, 0, none⟩) i h K := by
  have hbd := q.bd
  refine F_heap_Heap_int_up_ok _ _ _ _ ?_
  refine Lp.inv (fun st => ∃ (i : Nat) (l' : List Int), st.1.1 = (i : Int) ∧ i < l'.length ∧ HQ (encI .i64) 1 8 st.2 p v s l' ∧ UpOk le l' i ∧ l'.Perm l ∧ OnlyS s h st.2) (fun st => st.1.1.toNat) ?_
    ⟨i, l, rfl, hi, q, d, List.Perm.refl _, OnlyS.refl _ _⟩
  rintro ⟨⟨i, ⟨⟩⟩, h2⟩ R ⟨i, l', rfl, hi', q2, d2, pm, u2⟩ hR
  simp only at hi' q2 d2 pm u2
  unfold L1_heap_Heap_int_up
  dsimp only
  refine cnd_dec.2 ⟨fun hpos => ?_, fun hz => hK l' h2 q2 (d2.done (.inl (by omega))) pm u2⟩
  have hi0 : 0 < i := by omega
  have hbd2 := q2.bd
  simp only [Let_eq]
  rw [wrap_i64 (x := (i : Int) - 1) (by omega) (by omega)]
  have hdiv : Int.tdiv ((i : Int) - 1) 2 = (((i - 1) / 2 : Nat) : Int) := by
    rw [show (i : Int) - 1 = ((i - 1 : Nat) : Int) by omega]; rfl
  rw [hdiv, wrap_i64 (by omega) (by omega)]
  have hx : l'[(i - 1) / 2]? = some l'[(i - 1) / 2] := List.getElem?_eq_getElem (by omega)
  have hy : l'[i]? = some l'[i] := List.getElem?_eq_getElem hi'
  refine ⟨by decide, ldA_blk (s := .raw) (i := 0) (x := v) q2.b rfl (ldA_blk (s := .sl) (i := 1) (x := s) q2.b rfl ?_)⟩
  refine ld_row (i := (((i - 1) / 2 : Nat) : Int)) (x := l'[(i - 1) / 2]) q2.o.row (by omega) (by rw [Int.toNat_natCast]; exact hx) fun a ha hc1 => ?_
  refine ldA_row0 hc1 rfl (ldA_blk (s := .sl) (i := 1) (x := s) q2.b rfl ?_)
  refine ld_row (i := (i : Int)) (x := l'[i]) q2.o.row (by omega) (by rw [Int.toNat_natCast]; exact hy) fun a2 ha2 hc2 => ?_
  refine ldA_row0 hc2 rfl (?_)
  refine callV.mono (hv.2 l'[(i - 1) / 2] l'[i] h2 (fun r h' => r = cmp l'[(i - 1) / 2] l'[i] ∧ Ext h2 h') fun h' e => ⟨rfl, e⟩) ?_
  rintro ⟨r, ⟨⟩⟩ h3 ⟨hr, e3⟩
  simp only at hr
  subst hr
  refine cnd_dec.2 ⟨fun hle => hK l' h3 (q2.ext e3) (d2.done (.inr fun x y h4 h5 => ?_)) pm (u2.trans (e3.onlyS s)), fun hgt => ?_⟩
  · rw [hx] at h4; rw [hy] at h5; cases h4; cases h5; exact (hc _ _).1 hle
  · refine hI_swap (k := (i - 1) / 2) (q2.ext e3) hi' (by omega) fun h4 q4 u4 => hR _ ⟨(i - 1) / 2, _, rfl, by rw [swp_len]; omega, q4, d2.step ht hi0 hi' hx hy fun hle => hgt ((hc _ _).2 hle), (swp_perm _ _ _).trans pm, u2.trans ((e3.onlyS s).trans u4)⟩ (by simp only; omega)

/-- What a push leaves. -/
theorem hI_Push {p : Nat} {v : Value} {s : Sl} {l : List Int} {h : Hp} {cmp : Int → Int → Int} {le : Int → Int → Prop} (hv : OrdV Try.prog v hIArg cmp) (hc : ∀ x y, cmp x y ≤ 0 ↔ le x y) (ht : Tot le) {x : Int} {K : Hp → Prop} (q : HQ (encI .i64) 1 8 h p v s l) (hp : HeapL le l) (hb : (l.length + 1) * 8 ≤ 140737488355328)
    (hK : ∀ s' l' h', HQ (encI .i64) 1 8 h' p v s' l' → HeapL le l' → l'.Perm (x :: l) → OnlyP p s h h' → (s'.a = s.a ∨ ∃ b, s'.a = some ⟨b, 0, none⟩ ∧ h.size ≤ b) → K h') : C_heap_Heap_int_Push (some ⟨p, 0, none⟩) x h K := by
  have hplt0 := q.b.lt
  refine F_heap_Heap_int_Push_ok _ _ _ _ (ldA_blk (s := .sl) (i := 1) (x := s) q.b rfl ?_)
  refine app1 encI64 (by decide) q.o (by omega) hb (by decide) rfl x rfl fun s' h2 o2 os _ hn => ?_
  have hne : ∀ a, s'.a = some a → a.block ≠ p := fun a ha => by have := o2.above a ha; omega
  have b2 : Blk h2 p #[v, .slice s.a s.len s.cap] := (q.b).onlyS os fun a ha => q.apart a ha
  have hplt := b2.lt
  refine ⟨rfl, set_to b2 (i := 1) (by simp) fun h3 b3 u3 k3 z3 => ?_⟩
  simp only [List.setIfInBounds_toArray, List.set_cons_succ, List.set_cons_zero] at b3
  refine ldA_blk (s := .sl) (i := 1) (x := s') b3 rfl ?_
  have o3 : OwnRow (encI .i64) 1 (p + 1) h3 s' (l ++ [x]) := o2.only u3 (by omega)
  have q3 : HQ (encI .i64) 1 8 h3 p v s' (l ++ [x]) := ⟨b3, o3, by simpa using hb⟩
  have hl : (s'.len : Int) = (l.length : Int) + 1 := by have := o3.row.len; rw [List.length_append] at this; simp at this; omega
  simp only [Let_eq]
  rw [hl, wrap_i64 (x := (l.length : Int) + 1 - 1) (by omega) (by omega), show (l.length : Int) + 1 - 1 = ((l.length : Nat) : Int) by omega]
  refine hI_up hv hc ht q3 (by simp) (hp.snoc x) fun l' h4 q4 hl4 pm u4 => ?_
  have up3 : OnlyP p s h h3 := ((Ext.refl h).onlyP p s).trans ((os.onlyP p).trans (u3.onlyP s))
  exact hK s' l' h4 q4 hl4 (pm.trans (List.perm_append_singleton x l)) (OnlyP.transN up3 (u4.onlyP p) (Nat.le_refl _) (hn.imp id fun ⟨b, h5, h6⟩ => ⟨b, h5, by have := (Ext.refl h).size; omega⟩)) (hn.imp id fun ⟨b, h5, h6⟩ => ⟨b, h5, by have := (Ext.refl h).size; omega⟩)

theorem hI_Push_nil {x : Int} {h : Hp} {K : Hp → Prop} (hK : ∀ h', Ext h h' → K h') : C_heap_Heap_int_Push none x h K := by
  refine F_heap_Heap_int_Push_ok _ _ _ _ (hK _ (Ext.refl _))

theorem hI_Top {p : Nat} {v : Value} {s : Sl} {l : List Int} {h : Hp} {K : Int → Bool → Hp → Prop} (q : HQ (encI .i64) 1 8 h p v s l) (h0 : l = [] → ∀ h', Ext h h' → K 0 false h') (h1 : ∀ x, l[0]? = some x → ∀ h', Ext h h' → K x true h') : C_heap_Heap_int_Top (some ⟨p, 0, none⟩) h K := by
  refine F_heap_Heap_int_Top_ok _ _ _ (ldA_blk (s := .sl) (i := 1) (x := s) q.b rfl ?_)
  have hl := q.o.row.len
  unfold J1_heap_Heap_int_Top
  refine cnd_beq.2 ⟨fun hz => h0 (List.length_eq_zero_iff.1 (by omega)) h (Ext.refl _), fun hne => ?_⟩
  have hpos : 0 < l.length := by omega
  have hx : l[0]? = some l[0] := List.getElem?_eq_getElem hpos
  refine ldA_blk (s := .sl) (i := 1) (x := s) q.b rfl (ld_row (i := 0) (x := l[0]) q.o.row (by omega) hx fun a ha hc => ldA_row0 hc rfl (?_))
  exact h1 _ hx h (Ext.refl _)
theorem hI_Top_nil {h : Hp} {K : Int → Bool → Hp → Prop} (hK : ∀ h', Ext h h' → K 0 false h') : C_heap_Heap_int_Top none h K := by
  refine F_heap_Heap_int_Top_ok _ _ _ ?_
  exact hK h (Ext.refl _)

theorem hI_Pop {p : Nat} {v : Value} {s : Sl} {l : List Int} {h : Hp} {cmp : Int → Int → Int} {le : Int → Int → Prop} (hv : OrdV Try.prog v hIArg cmp) (hcl : ∀ x y, cmp x y < 0 ↔ ¬ le y x) (ht : Tot le) {K : Int → Bool → Hp → Prop} (q : HQ (encI .i64) 1 8 h p v s l) (hp : HeapL le l) (h0 : l = [] → ∀ h', Ext h h' → K 0 false h')
    (h1 : ∀ x, l[0]? = some x → ∀ s' l' h', HQ (encI .i64) 1 8 h' p v s' l' → HeapL le l' → (x :: l').Perm l → OnlyP p s h h' → s'.a = s.a → K x true h') : C_heap_Heap_int_Pop (some ⟨p, 0, none⟩) h K := by
  refine F_heap_Heap_int_Pop_ok _ _ _ (hI_Top q (fun hz h' e => cnd_yes rfl (h0 hz h' e)) fun x hx h3 e3 => cnd_no rfl ?_)
  have hpos : 0 < l.length := (List.getElem?_eq_some_iff.1 hx).1
  have hl : (s.len : Int) = l.length := by rw [q.o.row.len]
  have hbd := q.bd
  refine ldA_blk (s := .sl) (i := 1) (x := s) (q.ext e3).b rfl ?_
  refine let_to ?_
  rw [hl, wrap_i64 (x := (l.length : Int) - 1) (by omega) (by omega), show (l.length : Int) - 1 = ((l.length - 1 : Nat) : Int) by omega]
  refine hI_swap (i := 0) (k := l.length - 1) (q.ext e3) hpos (by omega) fun h4 q4 u4 => ?_
  have hcap := q4.o.row.cap
  have hlen4 : s.len = l.length := by omega
  refine ldA_blk (s := .sl) (i := 1) (x := s) q4.b rfl (slc_to (n := l.length - 1) rfl (by omega) ⟨rfl, set_to q4.b (i := 1) (by simp) fun h5 b5 u5 k5 z5 => ?_⟩)
  simp only [List.setIfInBounds_toArray, List.set_cons_succ, List.set_cons_zero] at b5
  have hplt : p < h4.size := q4.b.lt
  have o5 : OwnRow (encI .i64) 1 (p + 1) h5 ⟨s.a, l.length - 1, s.cap⟩ ((swp l 0 (l.length - 1)).take (l.length - 1)) := (q4.o.take (by rw [swp_len]; omega)).only u5 (by omega)
  have hlt : ((swp l 0 (l.length - 1)).take (l.length - 1)).length = l.length - 1 := by rw [List.length_take, swp_len]; omega
  have q5 : HQ (encI .i64) 1 8 h5 p v ⟨s.a, l.length - 1, s.cap⟩ ((swp l 0 (l.length - 1)).take (l.length - 1)) := ⟨b5, o5, by rw [hlt]; omega⟩
  have d5 := hp.popped hpos
  have pm5 := popped_perm hx
  have up5 : OnlyP p s h h5 := (e3.onlyP p s).trans ((u4.onlyP p).trans (u5.onlyP s))
  refine cnd_dec.2 ⟨fun hgt => ?_, fun hle => ?_⟩
  · refine hI_down (i := 0) hv hcl ht q5 (by rw [hlt]; omega) d5 fun l' h6 q6 hl6 pm6 u6 => ?_
    exact h1 x hx _ l' h6 q6 hl6 ((pm6.cons x).trans pm5) (up5.transN (u6.onlyP p) (Nat.le_refl _) (.inl rfl)) rfl
  · refine h1 x hx _ _ h5 q5 (fun j a b hj ha hb => ?_) pm5 up5 rfl
    have := (List.getElem?_eq_some_iff.1 hb).1
    omega
theorem hI_Pop_nil {h : Hp} {K : Int → Bool → Hp → Prop} (hK : ∀ h', Ext h h' → K 0 false h') : C_heap_Heap_int_Pop none h K := by
  refine F_heap_Heap_int_Pop_ok _ _ _ (hI_Top_nil fun h' e => cnd_yes rfl (hK h' e))

theorem hI_New {v : Value} {h : Hp} {K : Option Addr → Hp → Prop} (hv : oneCell v = true) (hK : ∀ h', Ext h h' → HQ (encI .i64) 1 8 h' h.size v ⟨none, 0, 0⟩ [] → K (some ⟨h.size, 0, none⟩) h') : C_heap_New_int v h K := by
  refine F_heap_New_int_ok _ _ _ (oneA_of hv (push_to fun h1 b1 e1 z1 => let_to (hK h1 e1 ⟨b1, OwnRow.nil _ _ _ _, by simp⟩)))
end Go.Proofs.YtcjkclpdkcgpaaaF
