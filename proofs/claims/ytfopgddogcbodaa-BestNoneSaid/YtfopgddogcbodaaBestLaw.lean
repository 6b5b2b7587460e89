/- Chapter 12: the laws of best. No condition. -/
import Derived.Test.YtfopgddogcbodaaBest
namespace Go.Proofs.YtfopgddogcbodaaF
open Go Go.Proofs.YtfopgddogcbodaaK
set_option linter.unusedSimpArgs false
set_option linter.unusedVariables false

theorem bestNone_ok {a0 a1 : Int} {h : Hp} : C_law12_BestNone a0 a1 h fun b h' => b = true ∧ Ext h h' := by
  refine F_law12_BestNone_ok _ _ _ _ (push_to fun h1 b1 e1 z1 => let_to (ldA_blk (s := .int .u64) (x := a0) b1 rfl (ldA_blk (s := .int .i64) (i := 1) (x := a1) b1 rfl ?_)))
  have add : ∀ {x y : Int} {h : Hp} {K : Bool → Hp → Prop}, (∀ h', Ext h h' → K false h') → C_best_Best_Add none x y h K := fun {x y h K} hk => by
    refine F_best_Best_Add_ok _ _ _ _ _ (push_to fun g1 d1 f1 y1 => let_to ?_)
    exact hk g1 f1
  refine add fun h2 e2 => cnd_yes rfl (F_best_Best_Bound_ok _ _ _ ?_)
  unfold F_best_Best_Bound
  rw [Jn_eq]
  refine cnd_yes rfl (cnd_yes rfl ?_)
  refine (F_best_Best_Full_ok _ _ _ (cnd_yes rfl (cnd_yes rfl (F_best_Best_Len_ok _ _ _ (cnd_yes rfl (cnd_yes rfl (F_best_Best_List_ok _ _ _ (cnd_yes rfl (cnd_yes rfl ?_)))))))))
  exact b_lives fun h3 e3 => ⟨rfl, (e1.trans e2).trans e3⟩
theorem _root_.Go.Proofs.YtfopgddogcbodaaK.IsRow.onlyP {α : Type} {enc : α → List Value} {size : Nat} {h h' : Hp} {s t : Sl} {l : List α} {p : Nat} (r : IsRow enc size h t l) (u : OnlyP p s h h') (ht : ∀ a, t.a = some a → a.block < h.size ∧ a.block ≠ p ∧ ∀ b, s.a = some b → a.block ≠ b.block) : IsRow enc size h' t l :=
  ⟨r.len, r.cap, r.at_, fun a i x ha hx j hj => by
    have := r.get a i x ha hx j hj
    obtain ⟨h1, h2, h3⟩ := ht a ha
    rw [← this]
    unfold hcell
    rw [add_block, add_block, u.2 _ h1 h2 h3]⟩
theorem BS.ext {p : Nat} {s s' : Sl} {h h' h0 : Hp} {b : Nat} {g : FuncId} {l : List (StA HT)} {k : Nat} (w : BS p s h s' h') (q : BQ h b p g s l k) (e : Ext h0 h) (hp : h0.size ≤ p) : Ext h0 h' :=
  ⟨Nat.le_trans e.size w.o.1, fun i hi => (w.o.2 i (by have := e.size; omega) (by omega) fun a ha => by have := q.q.o.above a ha; omega).trans (e.get i hi)⟩
theorem bestKeeps_ok {k : Int} {s : Sl} {l : List (StA HT)} {h : Hp} (r : RH h s l) (hb : (l.length + 1) * 16 ≤ 140737488355328) (hk : -9223372036854775808 ≤ k ∧ k ≤ 9223372036854775807) : C_law12_BestKeeps k s h fun b h' => b = true ∧ Ext h h' := by
  have hls := r.len
  have hcap := r.cap
  refine F_law12_BestKeeps_ok _ _ _ _ (b_New hk fun b g h1 e1 q1 hbp => ?_)
  rw [Jn_eq]
  refine Lp.inv (fun st => ∃ (j : Nat) (s' : Sl) (l' : List (StA HT)), st.1.1 = (j : Int) ∧ j ≤ l.length ∧ BQ st.2 b h.size g s' l' k.toNat ∧ l'.Perm (keep k.toNat (l.take j)) ∧ Ext h st.2) (fun st => l.length - st.1.1.toNat) ?_
    ⟨0, _, [], rfl, by omega, q1, by simp [keep, srt], e1⟩
  rintro ⟨⟨i, ⟨⟩⟩, g0⟩ R ⟨j, s1, l1, rfl, hj, q, pm, x0⟩ hR
  simp only at hj q pm x0
  have hl1 := pm.length_eq
  have hkl := keep_len k.toNat (l.take j)
  unfold L1_law12_BestKeeps
  dsimp only
  refine cnd_dec.2 ⟨fun hlt' => ?_, fun hge => ?_⟩
  · have hjl : j < l.length := by omega
    have hx : l[j]? = some l[j] := List.getElem?_eq_getElem hjl
    have w1 : IntKind.wrap .i64 ((j : Int) + 1) = ((j + 1 : Nat) : Int) := by rw [wrap_i64 (by omega) (by omega)]; omega
    have hsn : l.take j ++ [l[j]] = l.take (j + 1) := by rw [List.take_add_one, hx]; rfl
    have hks : keep k.toNat (l.take (j + 1)) = kp k.toNat (keep k.toNat (l.take j)) l[j] := by rw [← hsn, keep_snoc]
    have hkl2 := keep_len k.toNat (l.take (j + 1))
    rw [List.length_take] at hkl hkl2
    refine slc_to (n := j) rfl (by omega) (c_Keep (s := ⟨s.a, j, s.cap⟩) ((r.ext x0).take (by omega)) (by rw [List.length_take]; omega) fun s2 g2 o2 e2 => let_to ?_)
    rw [w1]
    refine slc_to (n := j + 1) rfl (by omega) (c_Keep (s := ⟨s.a, j + 1, s.cap⟩) (((r.ext x0).ext e2).take (by omega)) (by rw [List.length_take]; omega) fun s3 g3 o3 e3 => ?_)
    have r2 := o2.row
    have r3 := o3.row
    have n2 := r2.len
    have n3 := r3.len
    rw [Jn_eq]
    have fin : ∀ t : Bool, t = decide (keep k.toNat (l.take (j + 1)) ≠ keep k.toNat (l.take j)) → J2_law12_BestKeeps k s (fun b h' => b = true ∧ Ext h h') (some ⟨b, 0, none⟩) (((j : Int), ()), g0) R s3 (t, ()) g3 := by
      intro t ht
      have x3 := x0.trans (e2.trans e3)
      have q3 := q.ext (e2.trans e3)
      unfold J2_law12_BestKeeps
      dsimp only
      refine ld_row (i := (j : Int)) (x := l[j]) (r.ext x3) (by omega) hx fun a ha hc => ldA_row0 hc rfl (ldA_row hc rfl ?_)
      refine b_Add (x := l[j]) q3 pm.symm (keep_srt _ _) hkl.1 (by omega) fun s4 l4 g4 q4 p4 w4 => ?_
      have x4 := w4.ext q3 x3 (Nat.le_refl _)
      rw [← hks] at p4 ⊢
      refine cnd_no (by rw [ht]; simp) ?_
      have slt := q.q.o.lt
      have plt := q.q.b.lt
      have sz2 := e2.size
      have r4 : RH g4 s3 (keep k.toNat (l.take (j + 1))) := r3.onlyP w4.o fun a ha => by
        have h1 := o3.above a ha
        exact ⟨o3.lt a ha, by omega, fun c hc => by have := slt c hc; omega⟩
      have hp4 := p4.length_eq
      refine b_List q4 fun s5 g5 r5 e5 => ?_
      have hsl : srt l4 = keep k.toNat (l.take (j + 1)) := (srt_eq p4.symm (keep_srt _ _)).symm
      refine c_hSame r5 (r4.ext e5) (by rw [srt_len]; omega) (cnd_no (by rw [hsl]; simp) ?_)
      have q5 := q4.ext e5
      refine b_Len q5 (cnd_no (by rw [bne_eq_false_iff_eq]; omega) ?_)
      refine b_Bound q5 p4.symm (keep_srt _ _) hkl2.1 fun g6 e6 => let_to ?_
      rw [w1]
      have x6 := x4.trans (e5.trans e6)
      have q6 := q5.ext e6
      refine slc_to (n := j + 1) rfl (by omega) (c_rBound (s := ⟨s.a, j + 1, s.cap⟩) ((r.ext x6).take (by omega)) (by rw [List.length_take]; omega) hk fun g7 e7 => cnd_no (by rw [bne_eq_false_iff_eq]) ?_)
      refine b_Full (q6.ext e7) (cnd_no ?_ (let_to ?_))
      · rw [hp4]
        by_cases hf : k.toNat ≤ (keep k.toNat (l.take (j + 1))).length
        · rw [decide_eq_true hf, decide_eq_true (by omega)]; rfl
        · rw [decide_eq_false hf, decide_eq_false (by omega)]; rfl
      · exact hR _ ⟨j + 1, s4, l4, by simp, by omega, q6.ext e7, p4, x6.trans e7⟩ (by simp only; omega)
    refine cnd_dec.2 ⟨fun hgt => fin true ?_, fun hle => ?_⟩
    · rw [eq_comm, decide_eq_true_iff]
      intro e
      rw [e] at n3; omega
    · refine c_hSame r3 (r2.ext e3) (by omega) (fin _ ?_)
      by_cases e : keep k.toNat (l.take (j + 1)) = keep k.toNat (l.take j)
      · rw [decide_eq_true e, decide_eq_false (fun h => h e)]; rfl
      · rw [decide_eq_false e, decide_eq_true e]; rfl
  · obtain rfl : j = l.length := by omega
    rw [List.take_length] at pm
    unfold J1_law12_BestKeeps
    refine b_Bound q pm.symm (keep_srt _ _) (keep_len _ _).1 fun g6 e6 => c_rBound ((r.ext x0).ext e6) hb hk fun g7 e7 => cnd_yes (beq_self_eq_true _) ?_
    exact b_lives fun g8 e8 => ⟨rfl, x0.trans (e6.trans (e7.trans e8))⟩
end Go.Proofs.YtfopgddogcbodaaF
