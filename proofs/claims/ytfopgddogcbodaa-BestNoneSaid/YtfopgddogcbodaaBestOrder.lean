/- Chapter 12: the order in which hits come plays no part. No condition. -/
import Derived.Test.YtfopgddogcbodaaBestLaw
namespace Go.Proofs.YtfopgddogcbodaaF
open Go Go.Proofs.YtfopgddogcbodaaK
set_option linter.unusedSimpArgs false
set_option linter.unusedVariables false

/-- One best lies apart from what a step on another turns. -/
structure Dj (b p : Nat) (s : Sl) (p' : Nat) (s' : Sl) : Prop where
  b1 : b ≠ p'
  p1 : p ≠ p'
  s1 : ∀ a, s.a = some a → a.block ≠ p'
  b2 : ∀ c, s'.a = some c → b ≠ c.block
  p2 : ∀ c, s'.a = some c → p ≠ c.block
  s2 : ∀ c, s'.a = some c → ∀ a, s.a = some a → a.block ≠ c.block
theorem _root_.Go.Proofs.YtfopgddogcbodaaK.OwnRow.onlyP {α : Type} {enc : α → List Value} {size B : Nat} {h h' : Hp} {s t : Sl} {l : List α} {p : Nat} (r : OwnRow enc size B h t l) (u : OnlyP p s h h') (h1 : ∀ a, t.a = some a → a.block ≠ p) (h2 : ∀ c, s.a = some c → ∀ a, t.a = some a → a.block ≠ c.block) : OwnRow enc size B h' t l := by
  refine ⟨r.row.onlyP u fun a ha => ⟨r.lt a ha, h1 a ha, fun c hc => h2 c hc a ha⟩, r.own.imp id fun ⟨b, c, e, e1, e2, e3, e4⟩ => ⟨b, c, e, e1, e2, ?_, e4⟩⟩
  rw [u.2 b (block_lt e3) (h1 _ e1) fun c hc => h2 c hc _ e1]; exact e3
theorem BQ.through {h h' : Hp} {b p p' : Nat} {g : FuncId} {s s1 s2 : Sl} {l : List (StA HT)} {k : Nat} (q : BQ h b p g s l k) (w : BS p' s1 h s2 h') (d : Dj b p s p' s1) : BQ h' b p g s l k :=
  ⟨q.bb.onlyP w.o d.b1 d.b2, ⟨q.q.b.onlyP w.o d.p1 d.p2, q.q.o.onlyP w.o d.s1 d.s2, q.q.bd⟩, q.hp, q.ord, q.bp, q.bs⟩
theorem Dj.after {h h' : Hp} {b p p' : Nat} {g : FuncId} {s s1 s2 : Sl} {l : List (StA HT)} {k : Nat} (d : Dj b p s p' s1) (q : BQ h b p g s l k) (w : BS p' s1 h s2 h') : Dj b p s p' s2 := by
  have hb := q.bb.lt
  have hp := q.q.b.lt
  have hs := q.q.o.lt
  rcases w.n with e | ⟨c0, e, hc⟩
  · exact ⟨d.b1, d.p1, d.s1, fun c h => d.b2 c (by rw [← e]; exact h), fun c h => d.p2 c (by rw [← e]; exact h), fun c h => d.s2 c (by rw [← e]; exact h)⟩
  · exact ⟨d.b1, d.p1, d.s1, fun c h => by rw [e] at h; cases h; simp only; omega, fun c h => by rw [e] at h; cases h; simp only; omega, fun c h a ha => by rw [e] at h; cases h; have := hs a ha; simp only; omega⟩
theorem Dj.mine {h h' : Hp} {b p b' p' : Nat} {g : FuncId} {s s1 s2 : Sl} {l : List (StA HT)} {k : Nat} (d : Dj b' p' s1 p s) (q : BQ h b p g s l k) (w : BS p' s1 h s2 h') : Dj b' p' s2 p s := by
  have hp := q.q.b.lt
  have hs := q.q.o.lt
  rcases w.n with e | ⟨c0, e, hc⟩
  · exact ⟨d.b1, d.p1, fun a h => d.s1 a (by rw [← e]; exact h), d.b2, d.p2, fun c h a ha => d.s2 c h a (by rw [← e]; exact ha)⟩
  · exact ⟨d.b1, d.p1, fun a h => by rw [e] at h; cases h; simp only; omega, d.b2, d.p2, fun c h a ha => by rw [e] at ha; cases ha; have := hs c h; simp only; omega⟩
theorem rot_get {l : List (StA HT)} {n k : Nat} (hn : n < l.length) (hk : k < l.length) : (l.drop n ++ l.take n)[k]? = l[(k + n) % l.length]? := by
  by_cases h : k < l.length - n
  · rw [List.getElem?_append_left (by rw [List.length_drop]; exact h), List.getElem?_drop, Nat.mod_eq_of_lt (by omega), Nat.add_comm]
  · rw [List.getElem?_append_right (by rw [List.length_drop]; omega), List.length_drop, List.getElem?_take, if_pos (by omega), Nat.mod_eq_sub_mod (by omega), Nat.mod_eq_of_lt (by omega)]
    congr 1; omega
theorem rot_perm (l : List (StA HT)) (n : Nat) : (l.drop n ++ l.take n).Perm l := by
  refine List.perm_append_comm.trans ?_
  rw [List.take_append_drop]
theorem bestOrder_ok {k turn : Int} {s : Sl} {l : List (StA HT)} {h : Hp} (r : RH h s l) (hb : (l.length + 1) * 16 ≤ 140737488355328) (hk : -9223372036854775808 ≤ k ∧ k ≤ 9223372036854775807) : C_law12_BestOrder k s turn h fun b h' => b = true ∧ Ext h h' := by
  have hls := r.len
  refine F_law12_BestOrder_ok _ _ _ _ _ (b_New hk fun ba ga h1 e1 qa1 hba => b_New hk fun bb gb h2 e2 qb2 hbb => ?_)
  have hbal := qa1.bb.lt
  have sz1 := e1.size
  have qa2 := qa1.ext e2
  have hbb2 := qb2.bb.lt
  rw [Jn_eq]
  have first : ∀ (j : Nat) (x : StA HT) (xs : List (StA HT)), xs[j]? = some x → xs.length = l.length → keep k.toNat (xs.take (j + 1)) = kp k.toNat (keep k.toNat (xs.take j)) x := fun j x xs hx _ => by
    rw [List.take_add_one, hx]; exact keep_snoc _ _ _
  refine Lp.inv (fun st => ∃ (j : Nat) (sa sb : Sl) (la lb : List (StA HT)), st.1.1 = (j : Int) ∧ j ≤ l.length ∧ BQ st.2 ba h.size ga sa la k.toNat ∧ la.Perm (keep k.toNat (l.take j)) ∧ BQ st.2 bb h1.size gb sb lb k.toNat ∧ lb.Perm (keep k.toNat (l.reverse.take j)) ∧
      Dj ba h.size sa h1.size sb ∧ Dj bb h1.size sb h.size sa ∧ Ext h st.2) (fun st => l.length - st.1.1.toNat) ?_
    ⟨0, _, _, [], [], rfl, by omega, qa2, by simp [keep, srt], qb2, by simp [keep, srt], ⟨by omega, by omega, fun a ha => (by cases ha), fun c hc => (by cases hc), fun c hc => (by cases hc), fun c hc => (by cases hc)⟩,
      ⟨by omega, by omega, fun a ha => (by cases ha), fun c hc => (by cases hc), fun c hc => (by cases hc), fun c hc => (by cases hc)⟩, e1.trans e2⟩
  rintro ⟨⟨i, ⟨⟩⟩, g0⟩ R ⟨j, sa, sb, la, lb, rfl, hj, qa, pa, qb, pb, dab, dba, x0⟩ hR
  simp only at hj qa pa qb pb dab dba x0
  have kla := keep_len k.toNat (l.take j)
  have klb := keep_len k.toNat (l.reverse.take j)
  rw [List.length_take] at kla klb
  have hla := pa.length_eq
  have hlb := pb.length_eq
  unfold L2_law12_BestOrder
  dsimp only
  refine cnd_dec.2 ⟨fun hlt' => ?_, fun hge => ?_⟩
  · have hjl : j < l.length := by omega
    have hx : l[j]? = some l[j] := List.getElem?_eq_getElem hjl
    have hy : l[l.length - 1 - j]? = some l[l.length - 1 - j] := List.getElem?_eq_getElem (by omega)
    have hyr : l.reverse[j]? = some l[l.length - 1 - j] := by rw [List.getElem?_reverse hjl]; exact hy
    refine ld_row (i := (j : Int)) (x := l[j]) (r.ext x0) (by omega) hx fun a ha hc => ldA_row0 hc rfl (ldA_row hc rfl ?_)
    refine b_Add (x := l[j]) qa pa.symm (keep_srt _ _) kla.1 (by omega) fun sa' la' g1 qa' pa' wa => let_to (let_to ?_)
    have x1 := wa.ext qa x0 (Nat.le_refl _)
    have qb1 := qb.through wa dba
    have dba1 := dba.after qb wa
    have dab1 := dab.mine qb wa
    rw [wrap_i64 (x := (s.len : Int) - 1) (by omega) (by omega), wrap_i64 (by omega) (by omega)]
    have e1' : ((s.len : Int) - 1 - (j : Int)).toNat = l.length - 1 - j := by omega
    refine ld_row (i := (s.len : Int) - 1 - (j : Int)) (x := l[l.length - 1 - j]) (r.ext x1) (by omega) (by rw [e1']; exact hy) fun a ha hc => ldA_row0 hc rfl (ldA_row hc rfl ?_)
    refine b_Add (x := l[l.length - 1 - j]) qb1 pb.symm (keep_srt _ _) klb.1 (by rw [List.length_reverse] at klb; omega) fun sb' lb' g2 qb' pb' wb => let_to ?_
    have x2 := wb.ext qb1 x1 (by omega)
    have qa2 := qa'.through wb dab1
    rw [wrap_i64 (by omega) (by omega)]
    exact hR _ ⟨j + 1, sa', sb', la', lb', by simp, by omega, qa2, by rw [first j _ _ hx rfl]; exact pa', qb', by rw [first j _ _ hyr (List.length_reverse)]; exact pb', dab1.after qa' wb, dba1.mine qa' wb, x2⟩ (by simp only; omega)
  · obtain rfl : j = l.length := by omega
    rw [List.take_length] at pa
    rw [show l.reverse.take l.length = l.reverse by rw [List.take_of_length_le]; simp] at pb
    have pb2 : lb.Perm (keep k.toNat l) := by rw [keep_cong (List.reverse_perm l) k.toNat] at pb; exact pb
    clear hR R
    unfold J1_law12_BestOrder
    refine b_New hk fun bc gc h3 e3 qc3 hbc => ?_
    have x3 := x0.trans e3
    have qa3 := qa.ext e3
    have qb3 := qb.ext e3
    have hab := qa.bb.lt
    have hap := qa.q.b.lt
    have has := qa.q.o.lt
    have hbb' := qb.bb.lt
    have hbp' := qb.q.b.lt
    have hbs := qb.q.o.lt
    have hsz0 := x0.size
    rw [Jn_eq, Jn_eq]
    have rest : ∀ n : Nat, (l.length = 0 ∨ n < l.length) → J2_law12_BestOrder s (fun b h' => b = true ∧ Ext h h') (some ⟨ba, 0, none⟩) (some ⟨bb, 0, none⟩) (some ⟨bc, 0, none⟩) ((n : Int), ()) h3 := by
      intro n hn
      unfold J2_law12_BestOrder
      rw [Jn_eq]
      refine Lp.inv (fun st => ∃ (j : Nat) (sc : Sl) (lc : List (StA HT)), st.1.1 = (j : Int) ∧ j ≤ l.length ∧ BQ st.2 ba h.size ga sa la k.toNat ∧ BQ st.2 bb h1.size gb sb lb k.toNat ∧ BQ st.2 bc g0.size gc sc lc k.toNat ∧ lc.Perm (keep k.toNat ((l.drop n ++ l.take n).take j)) ∧
          Dj ba h.size sa g0.size sc ∧ Dj bb h1.size sb g0.size sc ∧ Ext h st.2) (fun st => l.length - st.1.1.toNat) ?_
        ⟨0, _, [], rfl, by omega, qa3, qb3, qc3, by simp [keep, srt], ⟨by omega, by omega, fun a ha => by have := has a ha; omega, fun c hc => (by cases hc), fun c hc => (by cases hc), fun c hc => (by cases hc)⟩,
          ⟨by omega, by omega, fun a ha => by have := hbs a ha; omega, fun c hc => (by cases hc), fun c hc => (by cases hc), fun c hc => (by cases hc)⟩, x3⟩
      rintro ⟨⟨i, ⟨⟩⟩, g4⟩ R ⟨j, sc, lc, rfl, hj, qa4, qb4, qc4, pc, dac, dbc, x4⟩ hR
      simp only at hj qa4 qb4 qc4 pc dac dbc x4
      have hrl : (l.drop n ++ l.take n).length = l.length := (rot_perm l n).length_eq
      have klc := keep_len k.toNat ((l.drop n ++ l.take n).take j)
      rw [List.length_take, hrl] at klc
      have hlc := pc.length_eq
      unfold L1_law12_BestOrder
      dsimp only
      refine cnd_dec.2 ⟨fun hlt' => let_to ?_, fun hge => ?_⟩
      · have hjl : j < l.length := by omega
        have hnl : n < l.length := by omega
        have hml : (j + n) % l.length < l.length := Nat.mod_lt _ (by omega)
        have hx : l[(j + n) % l.length]? = some l[(j + n) % l.length] := List.getElem?_eq_getElem hml
        have hxr := (rot_get hnl hjl).trans hx
        rw [wrap_i64 (by omega) (by omega)]
        refine ⟨by omega, let_to ?_⟩
        have em : Int.tmod ((j : Int) + (n : Int)) (s.len : Int) = (((j + n) % l.length : Nat) : Int) := by rw [hls]; rfl
        rw [em]
        refine ld_row (i := (((j + n) % l.length : Nat) : Int)) (x := l[(j + n) % l.length]) (r.ext x4) (by omega) hx fun a ha hc => ldA_row0 hc rfl (ldA_row hc rfl ?_)
        refine b_Add (x := l[(j + n) % l.length]) qc4 pc.symm (keep_srt _ _) klc.1 (by omega) fun sc' lc' g5 qc' pc' wc => let_to ?_
        have x5 := wc.ext qc4 x4 (by omega)
        rw [wrap_i64 (by omega) (by omega)]
        exact hR _ ⟨j + 1, sc', lc', by simp, by omega, qa4.through wc dac, qb4.through wc dbc, qc', by rw [first j _ _ hxr hrl]; exact pc', dac.after qa4 wc, dbc.after qb4 wc, x5⟩ (by simp only; omega)
      · obtain rfl : j = l.length := by omega
        rw [List.take_of_length_le (by rw [hrl]; exact Nat.le_refl _), keep_cong (rot_perm l n) k.toNat] at pc
        have sa' : srt la = keep k.toNat l := (srt_eq pa.symm (keep_srt _ _)).symm
        have sb' : srt lb = keep k.toNat l := (srt_eq pb2.symm (keep_srt _ _)).symm
        have sc' : srt lc = keep k.toNat l := (srt_eq pc.symm (keep_srt _ _)).symm
        have kl := keep_len k.toNat l
        unfold J3_law12_BestOrder
        refine b_List qa4 fun s5 g5 r5 e5 => b_List (qb4.ext e5) fun s6 g6 r6 e6 => ?_
        rw [sa'] at r5
        rw [sb'] at r6
        refine c_hSame (r5.ext e6) r6 (by omega) (cnd_yes (by simp) ?_)
        have e56 := e5.trans e6
        refine b_List (qa4.ext e56) fun s7 g7 r7 e7 => b_List ((qc4.ext e56).ext e7) fun s8 g8 r8 e8 => ?_
        rw [sa'] at r7
        rw [sc'] at r8
        refine c_hSame (r7.ext e8) r8 (by omega) (cnd_yes (by simp) ?_)
        have e58 := e56.trans (e7.trans e8)
        refine b_Bound (qa4.ext e58) pa.symm (keep_srt _ _) kl.1 fun g9 e9 => b_Bound ((qb4.ext e58).ext e9) pb2.symm (keep_srt _ _) kl.1 fun g10 e10 => cnd_yes (beq_self_eq_true _) ?_
        exact b_lives fun g11 e11 => ⟨rfl, x4.trans (e58.trans (e9.trans (e10.trans e11)))⟩
    have mid : ∀ t : Bool, (t = true → 0 < turn ∧ l.length ≠ 0) → J4_law12_BestOrder s turn (J2_law12_BestOrder s (fun b h' => b = true ∧ Ext h h') (some ⟨ba, 0, none⟩) (some ⟨bb, 0, none⟩) (some ⟨bc, 0, none⟩)) (t, ()) h3 := by
      intro t ht
      unfold J4_law12_BestOrder
      dsimp only
      refine cnd_if (fun h1 => ⟨by have := (ht h1).2; omega, let_to ?_⟩) fun _ => rest 0 (by omega)
      have h2 := ht h1
      have em : Int.tmod turn (s.len : Int) = ((turn.toNat % l.length : Nat) : Int) := by
        rw [hls]
        conv => lhs; rw [show turn = ((turn.toNat : Nat) : Int) by omega]
        rfl
      rw [em]
      exact rest _ (.inr (Nat.mod_lt _ (by omega)))
    refine cnd_dec.2 ⟨fun hpos => mid _ fun h => ?_, fun _ => mid false fun h => by cases h⟩
    rw [decide_eq_true_iff] at h
    exact ⟨hpos, by omega⟩
end Go.Proofs.YtfopgddogcbodaaF
