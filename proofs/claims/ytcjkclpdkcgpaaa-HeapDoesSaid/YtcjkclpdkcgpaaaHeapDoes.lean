/- Chapter 10: HeapDoes. No condition. -/
import Derived.Test.YtcjkclpdkcgpaaaHeapLaw
import Derived.Test.YtcjkclpdkcgpaaaLayInt
import Derived.Test.YtcjkclpdkcgpaaaSortPure
namespace Go.Proofs.YtcjkclpdkcgpaaaF
open Go Go.Proofs.YtcjkclpdkcgpaaaK
set_option linter.unusedSimpArgs false
set_option linter.unusedVariables false

abbrev eI := Go.Proofs.YtcjkclpdkcgpaaaK.encI .i64
theorem eI_ok : Enc eI 1 := encI_ok _
instance : Inhabited Int := ⟨0⟩
def iltB (x y : Int) : Bool := decide (x < y)
theorem iltOk : LtOk iltB := by
  unfold iltB
  refine ⟨fun x y h => ?_, fun x y z h1 h2 => ?_, fun x y h1 h2 => ?_⟩
  · rw [decide_eq_true_iff] at h; rw [decide_eq_false_iff_not]; omega
  · rw [decide_eq_false_iff_not] at *; omega
  · rw [decide_eq_false_iff_not] at *; omega
theorem iltOf (x y : Int) : Go.Proofs.ltOf icmp x y = decide (x < y) := by
  unfold Go.Proofs.ltOf
  by_cases h : x < y
  · rw [decide_eq_true h, decide_eq_true ((icmp_lt x y).2 (by omega))]
  · rw [decide_eq_false h, decide_eq_false fun hn => by have := (icmp_lt x y).1 hn; omega]
theorem iSWO : Go.Sort.SWO (Go.Proofs.ltOf icmp) where
  irrefl x := by rw [iltOf]; simp
  trans x y z h1 h2 := by rw [iltOf] at *; simp at *; omega
  ntrans x y z h1 h2 := by rw [iltOf] at *; simp at *; omega
theorem i_Clone {h : Hp} {s : Sl} {l : List Int} {K : Sl → Hp → Prop} (r : IsRow eI 1 h s l) (hb : l.length * 8 ≤ 140737488355328) (hK : ∀ s' h', OwnRow eI 1 h.size h' s' l → Ext h h' → K s' h') : C_slices_Clone_int_int s h K :=
  F_slices_Clone_int_int_ok _ _ _ (clone_to eI_ok (by decide) r hb (by decide) rfl hK)
theorem i_All {g : FuncId} {p : Nat} {s : Sl} {l m : List Int} {h : Hp} {K : Sl → Hp → Prop} (q : HQ eI 1 8 h p (.func (.func g) #[] #[]) s l) (eg : entered Try.prog g = true)
    (hc : ∀ x y h (K : Int → Hp → Prop), C_law10_order x y h K → CallT Try.prog g [.int .i64 x, .int .i64 y] [.at (.int .i64)] h fun s h => K s.1 h) (hm : m.Perm l) (hs : Srt iltB m)
    (hK : ∀ s' h', OwnRow eI 1 h.size h' s' m → Ext h h' → K s' h') : C_heap_Heap_int_All (some ⟨p, 0, none⟩) h K := by
  have hbd := q.bd
  refine F_heap_Heap_int_All_ok _ _ _ (ldA_blk (s := .sl) (i := 1) (x := s) q.b rfl ?_)
  refine i_Clone q.o.row q.bd fun s1 h1 o1 e1 => ?_
  refine ldA_blk (s := .raw) (i := 0) (x := .func (.func g) #[] #[]) (q.b.ext e1) rfl ?_
  refine c_SortFunc_int_int (enc := fun x => Value.int .i64 x) eI_ok (cf := icmp) iSWO eg (fun x y h K hk => hc x y h K (h_order (hk h (Ext.refl _)))) o1 (by omega) fun l' h2 pm hsr o2 u2 => ?_
  have e : l' = m := srt_uniq iltOk (pm.trans hm.symm) (srt_of fun i j x y hij hx hy => by
    have := hsr i j x y hij hx hy
    rw [icmp_lt] at this
    unfold iltB
    rw [decide_eq_false_iff_not]; omega) hs
  subst e
  exact hK s1 h2 o2 ((e1.belOf (Nat.le_refl _)).trans (u2.bel (B := h.size) e1.size o1.above)).ext
theorem i_Ints {h : Hp} {s t : Sl} {l m : List Int} {K : Bool → Hp → Prop} (r : IsRow eI 1 h s l) (r' : IsRow eI 1 h t m) (hb : l.length * 8 ≤ 140737488355328) (hK : K (decide (l = m)) h) : C_ref07_Ints s t h K := by
  have h1 := r.len
  have h2 := r'.len
  refine F_ref07_Ints_ok _ _ _ _ (cnd_bne.2 ⟨fun hne => ?_, fun heq => ?_⟩)
  · rw [decide_eq_false fun e => hne (by rw [h1, h2, e])] at hK; exact hK
  · have hlen : l.length = m.length := by omega
    refine Lp.inv (fun st => ∃ k : Nat, st.1.1 = (k : Int) ∧ k ≤ l.length ∧ st.2 = h ∧ l.take k = m.take k) (fun st => l.length - st.1.1.toNat) ?_ ⟨0, rfl, by omega, rfl, rfl⟩
    rintro ⟨⟨i, ⟨⟩⟩, g⟩ R ⟨k, rfl, hk, rfl, ht⟩ hR
    unfold L1_ref07_Ints
    dsimp only
    refine cnd_dec.2 ⟨fun hlt => ?_, fun hge => ?_⟩
    · have hx : l[k]? = some l[k] := List.getElem?_eq_getElem (by omega)
      have hy : m[k]? = some m[k] := List.getElem?_eq_getElem (by omega)
      refine ld_int0 (i := (k : Int)) (x := l[k]) r (by omega) hx (ld_int0 (i := (k : Int)) (x := m[k]) r' (by omega) hy (cnd_bne.2 ⟨fun hne => ?_, fun he => ?_⟩))
      · rw [decide_eq_false fun e => hne (by subst e; rfl)] at hK; exact hK
      · refine let_to ?_
        rw [wrap_i64 (by omega) (by omega)]
        refine hR _ ⟨k + 1, by simp, by omega, rfl, ?_⟩ (by simp only; omega)
        rw [List.take_add_one, List.take_add_one, hx, hy, ht, he]
    · obtain rfl : k = l.length := by omega
      rw [List.take_length, hlen, List.take_length] at ht
      rw [decide_eq_true ht] at hK; exact hK
theorem i_Put {h : Hp} {s : Sl} {l : List Int} {x : Int} {K : Sl → Hp → Prop} (r : IsRow eI 1 h s l) (hb : (l.length + 1) * 8 ≤ 140737488355328) (hK : ∀ s' h', OwnRow eI 1 h.size h' s' (ins iltB x l) → Ext h h' → K s' h') : C_ref10_Put s x h K := by
  have hls := r.len
  refine F_ref10_Put_ok _ _ _ _ ?_
  unfold F_ref10_Put
  rw [Jn_eq]
  refine Lp.inv (fun st => ∃ (k : Nat) (out : List Int), st.1.2.2.1 = (k : Int) ∧ k ≤ l.length ∧ OwnRow eI 1 h.size st.2 st.1.1 out ∧ out.length ≤ k + 1 ∧
    ((st.1.2.1 = false ∧ out.length ≤ k ∧ ins iltB x l = out ++ ins iltB x (l.drop k)) ∨ (st.1.2.1 = true ∧ ins iltB x l = out ++ l.drop k)) ∧ Ext h st.2) (fun st => l.length - st.1.2.2.1.toNat) ?_
    ⟨0, [], rfl, by omega, OwnRow.nil _ _ _ _, by simp, .inl ⟨rfl, by simp, by simp⟩, Ext.refl _⟩
  rintro ⟨⟨sO, dn, i, ⟨⟩⟩, g⟩ R ⟨k, out, rfl, hk, oO, hol, hst, x1⟩ hR
  simp only at hk oO hol hst x1
  have hsz := x1.size
  have rg := r.ext x1
  unfold L1_ref10_Put
  dsimp only
  rw [Jn_eq]
  refine cnd_dec.2 ⟨fun hlt' => ?_, fun hge => ?_⟩
  · have hkl : k < l.length := by omega
    have hx : l[k]? = some l[k] := List.getElem?_eq_getElem hkl
    have tail : ∀ (sO' : Sl) (d : Bool) (out' : List Int) (g' : Hp), OwnRow eI 1 h.size g' sO' out' → out'.length ≤ k + 1 → Ext h g' →
        ((d = false ∧ out'.length ≤ k ∧ ins iltB x l = out' ++ [l[k]] ++ ins iltB x (l.drop (k + 1))) ∨ (d = true ∧ ins iltB x l = out' ++ [l[k]] ++ l.drop (k + 1))) → J2_ref10_Put s ((sO, dn, (k : Int), ()), g) R (sO', d, ()) g' := by
      intro sO' d out' g' oO' hl' x2 hst'
      have hsz' := x2.size
      unfold J2_ref10_Put
      dsimp only
      refine ld_int0 (i := (k : Int)) (x := l[k]) (r.ext x2) (by omega) hx ?_
      refine app1 (x := l[k]) eI_ok (by decide) oO' hsz' (by omega) (by decide) rfl rfl fun s2 g2 o2 u2 b2 n2 => let_to ?_
      rw [wrap_i64 (by omega) (by omega)]
      refine hR _ ⟨k + 1, _, by simp, by omega, o2, by simp; omega, ?_, (x2.bel.trans b2).ext⟩ (by simp only; omega)
      rcases hst' with ⟨h1, h2, h3⟩ | ⟨h1, h2⟩
      · exact .inl ⟨h1, by simp; omega, h3⟩
      · exact .inr ⟨h1, h2⟩
    rw [Jn_eq]
    rcases hst with ⟨rfl, hol2, hin⟩ | ⟨rfl, hin⟩
    · have hstep := ins_step hx hin
      refine cnd_yes rfl (ld_int0 (i := (k : Int)) (x := l[k]) rg (by omega) hx ?_)
      unfold J3_ref10_Put
      dsimp only
      refine cnd_dec.2 ⟨fun hl => ?_, fun hn => ?_⟩
      · refine app1 (x := x) eI_ok (by decide) oO hsz (by omega) (by decide) rfl rfl fun s3 g3 o3 u3 b3 n3 => ?_
        exact tail s3 true _ g3 o3 (by simp; omega) (x1.bel.trans b3).ext (.inr ⟨rfl, hstep.1 (decide_eq_true hl)⟩)
      · exact tail sO false out g oO (by omega) x1 (.inl ⟨rfl, hol2, hstep.2 (decide_eq_false hn)⟩)
    · refine cnd_no rfl ?_
      unfold J3_ref10_Put
      dsimp only
      refine cnd_no rfl (tail sO true out g oO hol x1 (.inr ⟨rfl, ?_⟩))
      rw [hin, List.drop_eq_getElem_cons hkl]; simp
  · obtain rfl : k = l.length := by omega
    rw [List.drop_length] at hst
    unfold J1_ref10_Put
    dsimp only
    rcases hst with ⟨rfl, hol2, hin⟩ | ⟨rfl, hin⟩
    · refine cnd_yes rfl (app1 (x := x) eI_ok (by decide) oO hsz (by omega) (by decide) rfl rfl fun s3 g3 o3 u3 b3 n3 => ?_)
      rw [hin] at hK
      exact hK s3 g3 o3 (x1.bel.trans b3).ext
    · refine cnd_no rfl ?_
      rw [List.append_nil] at hin
      rw [hin] at hK
      exact hK _ g oO x1
theorem _root_.Go.Proofs.YtcjkclpdkcgpaaaK.IsRow.onlyP {α : Type} {enc : α → List Value} {size : Nat} {h h' : Hp} {s t : Sl} {l : List α} {p : Nat} (r : IsRow enc size h t l) (u : OnlyP p s h h') (ht : ∀ a, t.a = some a → a.block < h.size ∧ a.block ≠ p ∧ ∀ b, s.a = some b → a.block ≠ b.block) : IsRow enc size h' t l :=
  ⟨r.len, r.cap, r.at_, fun a i x ha hx j hj => by
    have := r.get a i x ha hx j hj
    obtain ⟨h1, h2, h3⟩ := ht a ha
    rw [← this]
    unfold hcell
    rw [add_block, add_block, u.2 _ h1 h2 h3]⟩
abbrev _root_.Go.Proofs.YtcjkclpdkcgpaaaK.HQ.val {α : Type} {enc : α → List Value} {size bytes : Nat} {h : Hp} {p : Nat} {v : Value} {s : Sl} {l : List α} (_ : HQ enc size bytes h p v s l) : Value := v
abbrev DT : List At := [.bool, .int .i64]
theorem encDT : Enc (vsA DT) 2 := encA rfl
abbrev leI (x y : Int) : Prop := x ≤ y
theorem head_of {l m : List Int} (hp : HeapL leI l) (pm : m.Perm l) (hs : Srt iltB m) {x : Int} (hx : l[0]? = some x) : m[0]? = some x ∧ m = x :: m.drop 1 := by
  cases m with
  | nil => have := pm.length_eq; simp at this; rw [List.length_eq_zero_iff.1 this.symm] at hx; cases hx
  | cons y t =>
    have hxm : x ∈ y :: t := pm.symm.subset (List.mem_of_getElem? hx)
    have hyl : y ∈ l := pm.subset (by simp)
    obtain ⟨j, hj⟩ := List.getElem?_of_mem hyl
    have h1 : x ≤ y := HeapL.head totI hp hx j y hj
    have h2 : y ≤ x := by
      rcases List.mem_cons.1 hxm with e | hm
      · omega
      · have := (List.pairwise_cons.1 hs).1 x hm
        unfold iltB at this
        rw [decide_eq_false_iff_not] at this; omega
    have e : y = x := by omega
    subst e
    exact ⟨rfl, rfl⟩
theorem heapDoes_ok {s : Sl} {l : List (StA DT)} {h : Hp} (r : IsRow (vsA DT) 2 h s l) (hb : l.length * 16 ≤ 140737488355328) : C_law10_HeapDoes s h fun b h' => b = true ∧ Ext h h' := by
  refine F_law10_HeapDoes_ok _ _ _ (hI_New rfl fun h1 e1 q1 => ?_)
  have hls := r.len
  have psz : h.size ≤ h.size := Nat.le_refl _
  refine Lp.inv (fun st => ∃ (k : Nat) (s' : Sl) (l' m : List Int), st.1.2.1 = (k : Int) ∧ k ≤ l.length ∧ HQ eI 1 8 st.2 h.size _ s' l' ∧ HeapL leI l' ∧ IsRow eI 1 st.2 st.1.1 m ∧ m.Perm l' ∧ Srt iltB m ∧ m.length ≤ k ∧
      (∀ a, st.1.1.a = some a → a.block < st.2.size ∧ a.block ≠ h.size ∧ ∀ b, s'.a = some b → a.block ≠ b.block) ∧ Ext h st.2) (fun st => l.length - st.1.2.1.toNat) ?_
    ⟨0, _, [], [], rfl, by omega, q1, fun j x y _ _ h => (by cases h), IsRow.nil _ _ _ _, List.Perm.refl _, List.Pairwise.nil, by simp, fun a ha => (by cases ha), e1⟩
  rintro ⟨⟨sR, i, ⟨⟩⟩, g⟩ R ⟨k, sH, lH, m, rfl, hk, q, hp, rR, pm, hsr, hml, hap, xg⟩ hR
  simp only at hk q hp rR pm hsr hml hap xg
  have hlen := pm.length_eq
  unfold L1_law10_HeapDoes
  dsimp only
  refine cnd_dec.2 ⟨fun hlt' => ?_, fun hge => h_lives fun h5 e5 => ⟨rfl, xg.trans e5⟩⟩
  have hkl : k < l.length := by omega
  have hx : l[k]? = some l[k] := List.getElem?_eq_getElem hkl
  have cmpc := fun (x y : Int) (h : Hp) (K : Int → Hp → Prop) (c : C_law10_order x y h K) => c
  -- what is looked at behind each deed
  have check : ∀ (sR' sH' : Sl) (lH' m' : List Int) (g' : Hp), HQ eI 1 8 g' h.size q.val sH' lH' → HeapL leI lH' → IsRow eI 1 g' sR' m' → m'.Perm lH' → Srt iltB m' → m'.length ≤ k + 1 →
      (∀ a, sR'.a = some a → a.block < g'.size ∧ a.block ≠ h.size ∧ ∀ b, sH'.a = some b → a.block ≠ b.block) → Ext h g' → J1_law10_HeapDoes (fun b h' => b = true ∧ Ext h h') (some ⟨h.size, 0, none⟩) ((sR, (k : Int), ()), g) R (sR', ()) g' := by
    intro sR' sH' lH' m' g' q' hp' r' pm' hs' hl' hap' x'
    have hlen' := pm'.length_eq
    have hr' := r'.len
    unfold J1_law10_HeapDoes
    dsimp only
    have fin : ∀ g2, Ext g' g2 → C_heap_Heap_int_All (some ⟨h.size, 0, none⟩) g2 fun t h11 => C_ref07_Ints t (Sl.mk sR'.a sR'.len sR'.cap) h11 fun t12 h13 => cnd (!t12) (false = true ∧ Ext h h13) (Let (IntKind.wrap .i64 ((k : Int) + 1)) fun t14 => R (((Sl.mk sR'.a sR'.len sR'.cap), t14, ()), h13)) := by
      intro g2 e2
      refine i_All (q'.ext e2) (by kernel_rfl) cmpc pm' hs' fun s3 g3 o3 e3 => ?_
      refine i_Ints o3.row ((r'.ext e2).ext e3) (by omega) (cnd_no (by simp) (let_to ?_))
      rw [wrap_i64 (by omega) (by omega)]
      have e23 := e2.trans e3
      exact hR _ ⟨k + 1, sH', lH', m', by simp, by omega, q'.ext e23, hp', r'.ext e23, pm', hs', hl', fun a ha => by
        obtain ⟨h1, h2, h3⟩ := hap' a ha
        exact ⟨Nat.lt_of_lt_of_le h1 e23.size, h2, h3⟩, x'.trans e23⟩ (by simp only; omega)
    refine hI_Top q' (fun hz g2 e2 => ?_) fun x hx g2 e2 => ?_
    · refine F_heap_Heap_int_Len_ok _ _ _ (ldA_blk (s := .sl) (i := 1) (x := sH') (q'.ext e2).b rfl ?_)
      have hz' : lH'.length = 0 := by rw [hz]; rfl
      have hq := q'.o.row.len
      refine cnd_no (by rw [bne_eq_false_iff_eq]; omega) (cnd_no (by rw [decide_eq_false (by omega)]; rfl) (cnd_no rfl (cnd_yes rfl (cnd_no rfl (fin g2 e2)))))
    · refine F_heap_Heap_int_Len_ok _ _ _ (ldA_blk (s := .sl) (i := 1) (x := sH') (q'.ext e2).b rfl ?_)
      have hpos : 0 < lH'.length := (List.getElem?_eq_some_iff.1 hx).1
      have hq := q'.o.row.len
      have hm0 := (head_of hp' pm' hs' hx).1
      refine cnd_no (by rw [bne_eq_false_iff_eq]; omega) (cnd_no (by rw [decide_eq_true (by omega)]; rfl) (cnd_yes rfl ?_))
      refine ld_int0 (i := 0) (x := x) (r'.ext e2) (by omega) hm0 (cnd_bne.2 ⟨fun hne => (hne rfl).elim, fun _ => cnd_no rfl (fin g2 e2)⟩)
  rw [Jn_eq]
  refine ld_row (i := (k : Int)) (x := l[k]) (r.ext xg) (by omega) hx fun a ha hc => ldA_row0 hc rfl (cnd_if (fun hpop => ?_) fun hpush => ?_)
  · refine hI_Pop (ordI (by kernel_rfl) cmpc) (fun x y => icmp_lt x y) totI q hp (fun hz g2 e2 => ?_) fun x hx2 s2 l2 g2 q2 p2 m2 u2 hs2 => ?_
    · have hz' : lH.length = 0 := by rw [hz]; rfl
      have hr' := rR.len
      rw [Jn_eq]
      refine cnd_no (by rw [decide_eq_false (by omega)]; rfl) (cnd_no rfl (cnd_yes rfl (cnd_no rfl ?_)))
      unfold J2_law10_HeapDoes
      refine cnd_no rfl ?_
      exact check sR sH lH m g2 (q.ext e2) hp (rR.ext e2) pm hsr (by omega) (fun a ha => by
        obtain ⟨h1, h2, h3⟩ := hap a ha
        exact ⟨Nat.lt_of_lt_of_le h1 e2.size, h2, h3⟩) (xg.trans e2)
    · have hpos : 0 < lH.length := (List.getElem?_eq_some_iff.1 hx2).1
      have hr' := rR.len
      obtain ⟨hm0, hmc⟩ := head_of hp pm hsr hx2
      have r2 : IsRow eI 1 g2 sR m := rR.onlyP u2 hap
      have x2 := q.frame xg psz u2
      rw [Jn_eq]
      refine cnd_no (by rw [decide_eq_true (by omega)]; rfl) (cnd_yes rfl ?_)
      refine ld_int0 (i := 0) (x := x) r2 (by omega) hm0 (cnd_bne.2 ⟨fun hne => (hne rfl).elim, fun _ => cnd_no rfl ?_⟩)
      unfold J2_law10_HeapDoes
      refine cnd_yes rfl (slc_row (lo := some 1) (hi := none) r2 (m := 1) (n := m.length) rfl (by simp only [Option.getD_none]; omega) (by omega) (Nat.le_refl _) fun t rt ht => ?_)
      rw [List.take_length] at rt
      refine check t s2 l2 (m.drop 1) g2 q2 p2 rt ?_ ?_ (by rw [List.length_drop]; omega) (fun a ha => ?_) x2
      · have := (hmc ▸ pm).trans m2.symm
        exact List.Perm.cons_inv this
      · rw [hmc] at hsr; exact (List.pairwise_cons.1 hsr).2
      · obtain ⟨b, hb, e⟩ := ht a ha
        obtain ⟨h1, h2, h3⟩ := hap b hb
        rw [e]
        exact ⟨Nat.lt_of_lt_of_le h1 u2.1, h2, fun c hc => h3 c (by rw [← hs2]; exact hc)⟩
  · refine ld_row (i := (k : Int)) (x := l[k]) (r.ext xg) (by omega) hx fun a ha hc => ldA_row (x := l[k].2.1) hc rfl ?_
    refine hI_Push (ordI (by kernel_rfl) cmpc) (fun x y => icmp_le x y) totI q hp (by omega) fun s2 l2 g2 q2 p2 m2 u2 n2 => ?_
    have x2 := q.frame xg psz u2
    have r2 : IsRow eI 1 g2 sR m := rR.onlyP u2 hap
    refine ld_row (i := (k : Int)) (x := l[k]) (r.ext x2) (by omega) hx fun a ha hc => ldA_row (x := l[k].2.1) hc rfl ?_
    refine i_Put (s := sR) r2 (by omega) fun s3 g3 o3 e3 => ?_
    have hperm := (ins_perm iltB l[k].2.1 m).trans ((pm.cons _).trans m2.symm)
    have hpl := q2.b.lt
    have hslt := q2.o.lt
    refine check s3 s2 l2 _ g3 (q2.ext e3) p2 o3.row hperm (ins_srt iltOk _ hsr) (by rw [(ins_perm _ _ _).length_eq]; simp; omega) (fun a ha => ?_) (x2.trans e3)
    have h1 := o3.lt a ha
    have h2 := o3.above a ha
    exact ⟨h1, by omega, fun b hb => by have := hslt b hb; omega⟩
end Go.Proofs.YtcjkclpdkcgpaaaF
