/- Chapter 18: the document's own answers, the laws. No condition. -/
import Derived.Test.YtpcbppicjoolfaaSplit
namespace Go.Proofs.YtpcbppicjoolfaaF
open Go Go.Proofs.YtpcbppicjoolfaaK
set_option linter.unusedSimpArgs false
set_option linter.unusedVariables false

theorem rank_snoc (l : List (StA FT)) (x y : StA FT) : rank (l ++ [y]) x = rank l x + if flt y x = true then 1 else 0 := by
  unfold rank
  rw [List.filter_append, List.length_append]
  congr 1
  by_cases h : flt y x = true <;> simp [h]
theorem r_Rank {h : Hp} {s : Sl} {l : List (StA FT)} {x : StA FT} (r : RF h s l) (hl : l.length ≤ 1048576) {K : Int → Hp → Prop} (hK : ∀ h', Ext h h' → K (rank l x : Int) h') : C_ref18_Rank s (fAt x) (fDi x) h K := by
  have hlen := r.len
  refine F_ref18_Rank_ok _ _ _ _ _ (push_to fun h1 b1 e1 z1 => let_to ?_)
  refine Lp.inv (fun st => st.2 = h1 ∧ ∃ k : Nat, st.1.2.1 = (k : Int) ∧ k ≤ l.length ∧ st.1.1 = (rank (l.take k) x : Int)) (fun st => l.length - st.1.2.1.toNat) ?_ ⟨rfl, 0, rfl, by omega, by simp [rank]⟩
  rintro ⟨⟨n', i', ⟨⟩⟩, g⟩ R ⟨rfl, k, rfl, hk, hn⟩ hR
  simp only at hn
  subst hn
  have hrk : rank (l.take k) x ≤ (l.take k).length := List.length_filter_le _ _
  rw [List.length_take] at hrk
  have r1 := r.ext e1
  unfold L1_ref18_Rank
  dsimp only
  refine cnd_dec.2 ⟨fun hlt => ?_, fun hge => ?_⟩
  · have hx : l[k]? = some (l[k]'(by omega)) := List.getElem?_eq_getElem _
    generalize (l[k]'(by omega)) = y at hx
    have es : rank (l.take (k + 1)) x = rank (l.take k) x + if flt y x = true then 1 else 0 := by
      rw [List.take_add_one, hx]; exact rank_snoc _ _ _
    rw [Jn_eq]
    have J1 : ∀ b : Bool, b = flt y x → J1_ref18_Rank (((rank (l.take k) x : Int), (k : Int), ()), g) R (b, ()) g := by
      intro b hb
      unfold J1_ref18_Rank
      dsimp only
      refine cnd_if (fun h1 => let_to (let_to ?_)) fun h1 => let_to ?_
      · rw [wrap_i64 (by omega) (by omega), wrap_i64 (by omega) (by omega)]
        exact hR _ ⟨rfl, k + 1, by simp, by omega, by rw [es, if_pos (hb ▸ h1)]; simp⟩ (by simp only; omega)
      · rw [wrap_i64 (by omega) (by omega)]
        exact hR _ ⟨rfl, k + 1, by simp, by omega, by rw [es, if_neg (by rw [← hb, h1]; simp)]; simp⟩ (by simp only; omega)
    refine f_ldD r1 rfl hx (ldA_blk (s := .int .i64) (i := 1) (x := fDi x) b1 rfl (cnd_dec.2 ⟨fun h2 => J1 _ ?_, fun h2 => f_ldD r1 rfl hx (ldA_blk (s := .int .i64) (i := 1) (x := fDi x) b1 rfl (cnd_beq.2 ⟨fun h3 => f_ldA r1 rfl hx (ldA_blk (s := .int .i64) (i := 0) (x := fAt x) b1 rfl (J1 _ ?_)), fun h3 => J1 _ ?_⟩))⟩))
    · unfold flt; rw [decide_eq_true h2]; rfl
    · unfold flt; rw [decide_eq_false h2, decide_eq_true h3]; simp
    · unfold flt; rw [decide_eq_false h2, decide_eq_false h3]; rfl
  · obtain rfl : k = l.length := by omega
    rw [List.take_length]
    exact hK _ e1
theorem r_Nth {h : Hp} {s : Sl} {l : List (StA FT)} {k : Int} (r : RF h s l) (hl : l.length ≤ 1048576) {K : Int → Int → Bool → Hp → Prop}
    (h1 : ∀ x h', x ∈ l → (rank l x : Int) = k → Ext h h' → K (fAt x) (fDi x) true h') (h2 : ∀ h', (∀ x ∈ l, (rank l x : Int) ≠ k) → Ext h h' → K 0 0 false h') : C_ref18_Nth s k h K := by
  have hlen := r.len
  refine F_ref18_Nth_ok _ _ _ _ (push_to fun g1 b1 e1 z1 => let_to ?_)
  refine Lp.inv (fun st => Ext g1 st.2 ∧ ∃ j : Nat, st.1.1 = (j : Int) ∧ j ≤ l.length ∧ ∀ x ∈ l.take j, (rank l x : Int) ≠ k) (fun st => l.length - st.1.1.toNat) ?_ ⟨Ext.refl _, 0, rfl, by omega, by simp⟩
  rintro ⟨⟨i', ⟨⟩⟩, g⟩ R ⟨x, j, rfl, hj, hin⟩ hR
  simp only at x
  have b := b1.ext x
  unfold L1_ref18_Nth
  dsimp only
  refine cnd_dec.2 ⟨fun hlt => ?_, fun hge => ?_⟩
  · have hx : l[j]? = some (l[j]'(by omega)) := List.getElem?_eq_getElem _
    generalize (l[j]'(by omega)) = y at hx
    refine f_ld (r.ext (e1.trans x)) rfl hx (r_Rank (x := y) (r.ext (e1.trans x)) hl fun g2 e2 => cnd_beq.2 ⟨fun he => ?_, fun hne => let_to ?_⟩)
    · refine f_ld (r.ext ((e1.trans x).trans e2)) rfl hx (set2 (b.ext e2) rfl fun g3 b3 o3 z3 => ld2 b3 (h1 y g3 (List.mem_of_getElem? hx) he (((e1.trans x).trans e2).only_new o3 (Nat.le_refl _))))
    · rw [wrap_i64 (by omega) (by omega)]
      refine hR _ ⟨x.trans e2, j + 1, by simp, by omega, fun z hz => ?_⟩ (by simp only; omega)
      rw [List.take_add_one, hx] at hz
      rcases List.mem_append.1 hz with hz | hz
      · exact hin z hz
      · have hz : z = y := by simpa using hz
        subst hz; exact hne
  · obtain rfl : j = l.length := by omega
    rw [List.take_length] at hin
    exact set2 b rfl fun g3 b3 o3 z3 => ld2 b3 (h2 g3 hin ((e1.trans x).only_new o3 (Nat.le_refl _)))
theorem r_Halve {h : Hp} {s : Sl} {l : List (StA FT)} {k : Int} (r : RF h s l) (hl : l.length ≤ 1048576) {K : Sl → Sl → Hp → Prop} (hK : ∀ ta tb h', RF h' ta (HA l k) → RF h' tb (HB l k) → Ext h h' → K ta tb h') : C_ref18_Halve s k h K := by
  have hlen := r.len
  refine F_ref18_Halve_ok _ _ _ _ ?_
  refine Lp.inv (fun st => ∃ j : Nat, st.1.2.2.1 = (j : Int) ∧ j ≤ l.length ∧ OwnRow (vsA FT) 2 h.size st.2 st.1.1 ((l.take j).filter fun x => decide ((rank l x : Int) < k)) ∧ OwnRow (vsA FT) 2 h.size st.2 st.1.2.1 ((l.take j).filter fun x => !decide ((rank l x : Int) < k)) ∧
      (∀ a, st.1.1.a = some a → ∀ c, st.1.2.1.a = some c → a.block ≠ c.block) ∧ Ext h st.2) (fun st => l.length - st.1.2.2.1.toNat) ?_
    ⟨0, rfl, by omega, by simpa using OwnRow.nil _ _ _ _, by simpa using OwnRow.nil _ _ _ _, (fun a ha => by cases ha), Ext.refl _⟩
  rintro ⟨⟨ta, tb, i', ⟨⟩⟩, g⟩ R ⟨j, rfl, hj, oa, ob, hne, x⟩ hR
  simp only at oa ob hne x
  have la := List.length_filter_le (fun x => decide ((rank l x : Int) < k)) (l.take j)
  have lb := List.length_filter_le (fun x => !decide ((rank l x : Int) < k)) (l.take j)
  rw [List.length_take] at la lb
  unfold L1_ref18_Halve
  dsimp only
  refine cnd_dec.2 ⟨fun hlt => ?_, fun hge => ?_⟩
  · have hx : l[j]? = some (l[j]'(by omega)) := List.getElem?_eq_getElem _
    generalize (l[j]'(by omega)) = y at hx
    have es : ∀ q : StA FT → Bool, (l.take (j + 1)).filter q = (l.take j).filter q ++ if q y = true then [y] else [] := fun q => by
      rw [List.take_add_one, hx, List.filter_append]
      congr 1
      by_cases hh : q y = true <;> simp [hh]
    refine f_ld (r.ext x) rfl hx (r_Rank (x := y) (r.ext x) hl fun g2 e2 => ?_)
    have x2 := x.trans e2
    have oa2 := oa.ext e2
    have ob2 := ob.ext e2
    refine cnd_dec.2 ⟨fun hn => f_ld (r.ext x2) rfl hx ?_, fun hn => f_ld (r.ext x2) rfl hx ?_⟩
    · refine app1 (x := y) encFT (by decide) oa2 x2.size (by omega) (by decide) rfl rfl fun s3 g3 o3 u3 b3 n3 => let_to ?_
      rw [wrap_i64 (by omega) (by omega)]
      have ub := ob2.onlyS u3 fun c hc a ha => fun e => hne c hc a ha e.symm
      refine hR _ ⟨j + 1, by simp, by omega, by rw [es, if_pos (decide_eq_true hn)]; exact o3, by rw [es, if_neg (by simp [hn]), List.append_nil]; exact ub, fun a ha c hc => ?_, (x2.bel.trans b3).ext⟩ (by simp only; omega)
      rcases n3 with e | ⟨q, e, hq⟩
      · exact hne a (by rw [← e]; exact ha) c hc
      · rw [e] at ha; cases ha
        have := ob2.lt c hc
        simp only; omega
    · refine app1 (x := y) encFT (by decide) ob2 x2.size (by omega) (by decide) rfl rfl fun s3 g3 o3 u3 b3 n3 => let_to ?_
      rw [wrap_i64 (by omega) (by omega)]
      have ua := oa2.onlyS u3 fun c hc a ha => hne a ha c hc
      refine hR _ ⟨j + 1, by simp, by omega, by rw [es, if_neg (by simp [hn]), List.append_nil]; exact ua, by rw [es, if_pos (by simpa using hn)]; exact o3, fun a ha c hc => ?_, (x2.bel.trans b3).ext⟩ (by simp only; omega)
      rcases n3 with e | ⟨q, e, hq⟩
      · exact hne a ha c (by rw [← e]; exact hc)
      · rw [e] at hc; cases hc
        have := oa2.lt a ha
        simp only; omega
  · obtain rfl : j = l.length := by omega
    rw [List.take_length] at oa ob
    exact hK ta tb g oa.row ob.row x
theorem c_same {h : Hp} {s t : Sl} {l m : List (StA FT)} (r1 : RF h s l) (r2 : RF h t m) (hl : l.length ≤ 1048576) {K : Bool → Hp → Prop} (hK : K (decide (l = m)) h) : C_law18_same s t h K := by
  have l1 := r1.len
  have l2 := r2.len
  refine F_law18_same_ok _ _ _ _ (cnd_bne.2 ⟨fun hne => ?_, fun he => ?_⟩)
  · have : l ≠ m := fun e => hne (by rw [l1, l2, e])
    rw [decide_eq_false this] at hK; exact hK
  · have hlm : l.length = m.length := by omega
    refine Lp.inv (fun st => st.2 = h ∧ ∃ k : Nat, st.1.1 = (k : Int) ∧ k ≤ l.length ∧ l.take k = m.take k) (fun st => l.length - st.1.1.toNat) ?_ ⟨rfl, 0, rfl, by omega, by simp⟩
    rintro ⟨⟨i', ⟨⟩⟩, g⟩ R ⟨rfl, k, rfl, hk, ht⟩ hR
    unfold L1_law18_same
    dsimp only
    refine cnd_dec.2 ⟨fun hlt => ?_, fun hge => ?_⟩
    · have hx : l[k]? = some (l[k]'(by omega)) := List.getElem?_eq_getElem _
      have hy : m[k]? = some (m[k]'(by omega)) := List.getElem?_eq_getElem _
      generalize (l[k]'(by omega)) = x at hx
      generalize (m[k]'(by omega)) = y at hy
      have no : x ≠ y → K false ((((k : Int), PUnit.unit), g) : (Int × Unit) × Hp).2 := fun hne => by
        have : l ≠ m := fun e => by subst e; rw [hx] at hy; cases hy; exact hne rfl
        rw [decide_eq_false this] at hK; exact hK
      refine f_ldA r1 rfl hx (f_ldA r2 rfl hy (cnd_bne.2 ⟨fun hne => no fun e => hne (by rw [e]), fun e1 => f_ldD r1 rfl hx (f_ldD r2 rfl hy (cnd_bne.2 ⟨fun hne => no fun e => hne (by rw [e]), fun e2 => let_to ?_⟩))⟩))
      rw [wrap_i64 (by omega) (by omega)]
      exact hR _ ⟨rfl, k + 1, by simp, by omega, by rw [List.take_add_one, List.take_add_one, hx, hy, ht, far_ext e1 e2]⟩ (by simp only; omega)
    · obtain rfl : k = l.length := by omega
      have e : l = m := by rw [List.take_length, hlm, List.take_length] at ht; exact ht
      rw [decide_eq_true e] at hK; exact hK
theorem c_fars {h : Hp} {s : Sl} {l : List (StA FT)} (r : RF h s l) (hl : l.length ≤ 1048576) {K : Sl → Hp → Prop} (hK : ∀ t h', OwnRow (vsA FT) 2 h.size h' t l → Ext h h' → K t h') : C_law18_fars s h K := by
  have hlen := r.len
  refine F_law18_fars_ok _ _ _ ?_
  refine Lp.inv (fun st => ∃ k : Nat, st.1.2.1 = (k : Int) ∧ k ≤ l.length ∧ OwnRow (vsA FT) 2 h.size st.2 st.1.1 (l.take k) ∧ Ext h st.2) (fun st => l.length - st.1.2.1.toNat) ?_ ⟨0, rfl, by omega, by simpa using OwnRow.nil _ _ _ _, Ext.refl _⟩
  rintro ⟨⟨t, i', ⟨⟩⟩, g⟩ R ⟨k, rfl, hk, o, x⟩ hR
  simp only at o x
  unfold L1_law18_fars
  dsimp only
  refine cnd_dec.2 ⟨fun hlt => ?_, fun hge => ?_⟩
  · have hx : l[k]? = some (l[k]'(by omega)) := List.getElem?_eq_getElem _
    generalize (l[k]'(by omega)) = y at hx
    refine f_ldA (r.ext x) rfl hx (f_ldD (r.ext x) rfl hx ?_)
    refine app1 (x := y) encFT (by decide) o x.size (by rw [List.length_take]; omega) (by decide) rfl rfl fun s3 g3 o3 u3 b3 n3 => let_to ?_
    rw [wrap_i64 (by omega) (by omega)]
    refine hR _ ⟨k + 1, by simp, by omega, by rw [List.take_add_one, hx]; exact o3, (x.bel.trans b3).ext⟩ (by simp only; omega)
  · obtain rfl : k = l.length := by omega
    rw [List.take_length] at o
    exact hK t g o x
theorem c_Unlike {h : Hp} {s : Sl} {l : List (StA FT)} (r : RF h s l) (hl : l.length ≤ 1048576) {K : Bool → Hp → Prop} (h1 : (l.map fAt).Nodup → K true h) (h2 : K false h) : C_ref18_Unlike s h K := by
  have hlen := r.len
  refine F_ref18_Unlike_ok _ _ _ ?_
  refine Lp.inv (fun st => st.2 = h ∧ ∃ k : Nat, st.1.1 = (k : Int) ∧ k ≤ l.length ∧ ((l.take k).map fAt).Nodup) (fun st => l.length - st.1.1.toNat) ?_ ⟨rfl, 0, rfl, by omega, by simp⟩
  rintro ⟨⟨i', ⟨⟩⟩, g⟩ R ⟨rfl, k, rfl, hk, hn⟩ hR
  unfold L1_ref18_Unlike
  dsimp only
  refine cnd_dec.2 ⟨fun hlt => ?_, fun hge => ?_⟩
  · have hx : l[k]? = some (l[k]'(by omega)) := List.getElem?_eq_getElem _
    generalize (l[k]'(by omega)) = y at hx
    refine Lp.inv (fun st => st.2 = g ∧ ∃ j : Nat, st.1.1 = (j : Int) ∧ j ≤ k ∧ fAt y ∉ (l.take j).map fAt) (fun st => k - st.1.1.toNat) ?_ ⟨rfl, 0, rfl, by omega, by simp⟩
    rintro ⟨⟨i2, ⟨⟩⟩, g2⟩ R2 ⟨rfl, j, rfl, hj, hnj⟩ hR2
    unfold L2_ref18_Unlike
    dsimp only
    refine cnd_dec.2 ⟨fun hlt2 => ?_, fun hge2 => let_to ?_⟩
    · have hz : l[j]? = some (l[j]'(by omega)) := List.getElem?_eq_getElem _
      generalize (l[j]'(by omega)) = z at hz
      refine f_ldA r rfl hx (f_ldA r rfl hz (cnd_beq.2 ⟨fun _ => h2, fun hne => let_to ?_⟩))
      rw [wrap_i64 (by omega) (by omega)]
      refine hR2 _ ⟨rfl, j + 1, by simp, by omega, ?_⟩ (by simp only; omega)
      rw [List.take_add_one, hz, List.map_append]
      simp only [List.mem_append, not_or]
      exact ⟨hnj, by simpa using hne⟩
    · obtain rfl : j = k := by omega
      rw [wrap_i64 (by omega) (by omega)]
      refine hR _ ⟨rfl, j + 1, by simp, by omega, ?_⟩ (by simp only; omega)
      rw [List.take_add_one, hx, List.map_append]
      refine List.nodup_append.2 ⟨hn, by simp, fun a ha b hb => ?_⟩
      have hb : b = fAt y := by simpa using hb
      subst hb
      intro e; subst e; exact hnj ha
  · obtain rfl : k = l.length := by omega
    rw [List.take_length] at hn
    exact h1 hn
theorem c_lives18 {h : Hp} {K : Bool → Hp → Prop} (hK : ∀ h', Ext h h' → K true h') : C_law18_lives h K := by
  refine F_law18_lives_ok _ _ (push_to fun h1 b1 e1 z1 => let_to ?_)
  have r : RF h1 ⟨some ⟨h.size, 0, none⟩, 3, 3⟩ [(0, 5, ()), (1, 3, ()), (2, 4, ())] := Blk.row encFT b1 (l := [(0, 5, ()), (1, 3, ()), (2, 4, ())]) (cap := 3) (by decide) rfl
  refine c_Nth r (by decide) (by decide) (fun x g hx hr e => ?_) fun g hno e => (hno (by decide)).elim
  have hx2 : x = (2, 4, ()) := by
    rcases List.mem_cons.1 hx with h | hx
    · subst h; exact absurd hr (by decide)
    · rcases List.mem_cons.1 hx with h | hx
      · subst h; exact absurd hr (by decide)
      · exact List.mem_singleton.1 hx
  subst hx2
  refine box2 fun g1 c1 x1 y1 => cnd_yes rfl ?_
  refine ldA_blk (s := .int .i64) (x := (2 : Int)) c1 rfl (cnd_yes rfl (ldA_blk (s := .int .i64) (i := 1) (x := (4 : Int)) c1 rfl (hK _ ((e1.trans e).trans x1))))
theorem nodup_far {l : List (StA FT)} (h : (l.map fAt).Nodup) : l.Nodup := (List.pairwise_map.1 h).imp fun hne e => hne (by rw [e])
theorem splitHalves_ok {h : Hp} {s : Sl} {l : List (StA FT)} {k : Int} (r : RF h s l) : C_law18_SplitHalves s k h fun b h' => b = true ∧ Ext h h' := by
  have hlen := r.len
  refine F_law18_SplitHalves_ok _ _ _ _ ?_
  unfold F_law18_SplitHalves
  rw [Jn_eq]
  have no : J1_law18_SplitHalves s k (fun b h' => b = true ∧ Ext h h') (true, ()) h := by
    unfold J1_law18_SplitHalves
    exact cnd_yes rfl (c_lives18 fun h' e => ⟨rfl, e⟩)
  refine cnd_dec.2 ⟨fun _ => no, fun hs => c_Unlike r (by omega) (fun hu => ?_) no⟩
  have hn := nodup_far hu
  unfold J1_law18_SplitHalves
  refine cnd_no rfl (c_fars r (by omega) fun t3 h4 o4 e4 => ?_)
  have rest : ∀ (a d : Int) (ok : Bool) (h8 : Hp), Ext h h8 → (∀ {K2 : Int → Int → Bool → Hp → Prop} {g : Hp}, Ext h g → (∀ g', Ext g g' → K2 a d ok g') → C_ref18_Nth s k g K2) →
      Let (Array.push h8 (Obj.cells #[.int .i64 0, .int .i64 0] 26)) fun h9 => Let (Addr.mk (Array.size h8) 0 none) fun p10 => stC h9 p10 (Let (hset h9 p10 (.int .i64 a)) fun h11 => stC h11 (Addr.add p10 1) (Let (hset h11 (Addr.add p10 1) (.int .i64 d)) fun h12 =>
        C_ref18_Nth s k h12 fun t13 t14 t15 h16 => Let (Array.push h16 (Obj.cells #[.int .i64 0, .int .i64 0] 31)) fun h17 => Let (Addr.mk (Array.size h16) 0 none) fun p18 => stC h17 p18 (Let (hset h17 p18 (.int .i64 t13)) fun h19 => stC h19 (Addr.add p18 1) (Let (hset h19 (Addr.add p18 1) (.int .i64 t14)) fun h20 =>
        C_law18_fars s h20 fun t21 h22 => C_split_Halve t21 k h22 fun t23 t24 h25 => C_ref18_Halve s k h25 fun t26 t27 h28 => ldA (.int .i64) h28 p10 fun t29 => ldA (.int .i64) h28 p18 fun t30 => cnd (t29 == t30) (ldA (.int .i64) h28 (Addr.add p10 1) fun t31 => ldA (.int .i64) h28 (Addr.add p18 1) fun t32 =>
          cnd (t31 == t32) (cnd (ok == t15) (C_law18_same t23 t26 h28 fun t33 h34 => cnd t33 (C_law18_same t24 t27 h34 fun t35 h36 => cnd t35 (C_law18_lives h36 fun t37 h38 => t37 = true ∧ Ext h h38) (false = true ∧ Ext h h36)) (false = true ∧ Ext h h34)) (false = true ∧ Ext h h28)) (false = true ∧ Ext h h28)) (false = true ∧ Ext h h28))))) := by
    intro a d ok h8 x8 hnth
    refine box2 fun g1 c1 x1 y1 => hnth (x8.trans x1) fun g2 x2 => box2 fun g3 c3 x3 y3 => ?_
    have xx := ((x8.trans x1).trans x2).trans x3
    refine c_fars (r.ext xx) (by omega) fun t g4 o4 x4 => c_Halve o4.row hn (by omega) fun ta tb g5 ra rb x5 => r_Halve (r.ext ((xx.trans x4).trans x5)) (by omega) fun tc td g6 rc rd x6 => ?_
    have c1' := ((((c1.ext x2).ext x3).ext x4).ext x5).ext x6
    have c3' := ((c3.ext x4).ext x5).ext x6
    have xf := (((xx.trans x4).trans x5).trans x6)
    have l1 : (HA l k).length ≤ l.length := List.length_filter_le (fun x => decide ((rank l x : Int) < k)) l
    have l2 : (HB l k).length ≤ l.length := List.length_filter_le (fun x => !decide ((rank l x : Int) < k)) l
    refine ldA_blk (s := .int .i64) (x := a) c1' rfl (ldA_blk (s := .int .i64) (x := a) c3' rfl (cnd_yes (beq_self_eq_true _) (ldA_blk (s := .int .i64) (i := 1) (x := d) c1' rfl (ldA_blk (s := .int .i64) (i := 1) (x := d) c3' rfl (cnd_yes (beq_self_eq_true _) (cnd_yes (beq_self_eq_true _) ?_))))))
    refine c_same (ra.ext x6) rc (by omega) (cnd_yes (by simp) (c_same (rb.ext x6) rd (by omega) (cnd_yes (by simp) (c_lives18 fun g7 x7 => ⟨rfl, xf.trans x7⟩))))
  refine c_Nth o4.row hn (by omega) (fun x h8 hx hr e8 => rest _ _ _ h8 (e4.trans e8) fun {K2 g} xg hk => r_Nth (r.ext xg) (by omega) (fun y g' hy hry e => ?_) fun g' hno e => (hno x hx hr).elim) fun h8 hno e8 => rest _ _ _ h8 (e4.trans e8) fun {K2 g} xg hk => r_Nth (r.ext xg) (by omega) (fun y g' hy hry e => ?_) fun g' _ e => hk g' e
  · have : y = x := rank_inj hy hx (by omega)
    subst this
    exact hk g' e
  · have := rank_lt hn hy
    exact (hno ⟨by omega, by omega⟩).elim
theorem splitBounds_ok {h : Hp} {s : Sl} {l : List (StA FT)} {k : Int} (r : RF h s l) : C_law18_SplitBounds s k h fun b h' => b = true ∧ Ext h h' := by
  have hlen := r.len
  refine F_law18_SplitBounds_ok _ _ _ _ ?_
  unfold F_law18_SplitBounds
  rw [Jn_eq]
  have no : J1_law18_SplitBounds s k (fun b h' => b = true ∧ Ext h h') (true, ()) h := by
    unfold J1_law18_SplitBounds
    exact cnd_yes rfl (c_lives18 fun h' e => ⟨rfl, e⟩)
  refine cnd_dec.2 ⟨fun _ => no, fun hs => c_Unlike r (by omega) (fun hu => ?_) no⟩
  have hn := nodup_far hu
  have l1 : (HA l k).length ≤ l.length := List.length_filter_le (fun x => decide ((rank l x : Int) < k)) l
  have l2 : (HB l k).length ≤ l.length := List.length_filter_le (fun x => !decide ((rank l x : Int) < k)) l
  unfold J1_law18_SplitBounds
  refine cnd_no rfl (c_fars r (by omega) fun t3 h4 o4 e4 => c_Halve o4.row hn (by omega) fun ta tb h5 ra rb e5 => c_fars (r.ext (e4.trans e5)) (by omega) fun t8 h9 o9 e9 => c_Bounds o9.row (by omega) fun lo hi h12 bd e12 =>
    c_Bounds ((ra.ext e9).ext e12) (by omega) fun lo1 hi1 h15 bd1 e15 => c_Bounds (((rb.ext e9).ext e12).ext e15) (by omega) fun lo2 hi2 h18 bd2 e18 => ?_)
  have xx : Ext h h18 := ((((e4.trans e5).trans e9).trans e12).trans e15).trans e18
  rw [Jn_eq]
  have J2 : J2_law18_SplitBounds s (fun b h' => b = true ∧ Ext h h') lo hi () h18 := by
    unfold J2_law18_SplitBounds
    rw [Jn_eq]
    refine Lp.inv (fun st => st.2 = h18 ∧ ∃ j : Nat, st.1.2.2.2.1 = (j : Int) ∧ j ≤ l.length ∧ ((st.1.1 = true ∧ 0 < j ∧ Bd (l.take j) st.1.2.1 st.1.2.2.1) ∨ (j = 0 ∧ st.1.1 = ((s.len : Int) == 0) ∧ st.1.2.1 = 1 ∧ st.1.2.2.1 = 0))) (fun st => l.length - st.1.2.2.2.1.toNat) ?_
      ⟨rfl, 0, rfl, by omega, .inr ⟨rfl, rfl, rfl, rfl⟩⟩
    rintro ⟨⟨met, le, mo, i', ⟨⟩⟩, g⟩ R ⟨rfl, j, rfl, hj, hin⟩ hR
    simp only at hin
    unfold L1_law18_SplitBounds
    dsimp only
    have rg := r.ext xx
    refine cnd_dec.2 ⟨fun hlt => ?_, fun hge => ?_⟩
    · have hx : l[j]? = some (l[j]'(by omega)) := List.getElem?_eq_getElem _
      generalize (l[j]'(by omega)) = y at hx
      rw [Jn_eq]
      have tk : ∀ z, z ∈ l.take (j + 1) ↔ z ∈ l.take j ∨ z = y := fun z => by rw [List.take_add_one, hx]; simp
      have J4 : ∀ a b : Int, (j = 0 ∧ a = fDi y ∧ b = fDi y ∨ 0 < j ∧ Bd (l.take j) a b) → J4_law18_SplitBounds s ((met, le, mo, (j : Int), ()), g) R (a, b, ()) g := by
        intro a b hab
        unfold J4_law18_SplitBounds
        dsimp only
        refine f_ldD rg rfl hx (let_to (f_ldD rg rfl hx (let_to (let_to ?_))))
        rw [wrap_i64 (by omega) (by omega)]
        refine hR _ ⟨rfl, j + 1, by simp, by omega, .inl ⟨rfl, by omega, ?_⟩⟩ (by simp only; omega)
        simp only
        rcases hab with ⟨h0, rfl, rfl⟩ | ⟨h0, hb⟩
        · subst h0
          simp only [Int.lt_irrefl, if_false, gt_iff_lt]
          refine .inr ⟨⟨y, (tk y).2 (.inr rfl), rfl⟩, ⟨y, (tk y).2 (.inr rfl), rfl⟩, fun z hz => ?_⟩
          rcases (tk z).1 hz with h | h
          · simp at h
          · subst h; omega
        · rcases hb with ⟨e, _⟩ | ⟨⟨u, hu, rfl⟩, ⟨v, hv, rfl⟩, hall⟩
          · have := congrArg List.length e
            rw [List.length_take, List.length_nil] at this
            omega
          · refine .inr ⟨?_, ?_, fun z hz => ?_⟩
            · split
              · exact ⟨y, (tk y).2 (.inr rfl), rfl⟩
              · exact ⟨u, (tk u).2 (.inl hu), rfl⟩
            · split
              · exact ⟨y, (tk y).2 (.inr rfl), rfl⟩
              · exact ⟨v, (tk v).2 (.inl hv), rfl⟩
            · rcases (tk z).1 hz with h | h
              · have := hall z h
                (repeat' split) <;> omega
              · subst h
                (repeat' split) <;> omega
      refine cnd_beq.2 ⟨fun h0 => f_ldD rg rfl hx (f_ldD rg rfl hx (J4 _ _ (.inl ⟨by omega, rfl, rfl⟩))), fun h0 => J4 _ _ (.inr ⟨by omega, ?_⟩)⟩
      rcases hin with ⟨_, _, hb⟩ | ⟨h1, _⟩
      · exact hb
      · omega
    · obtain rfl : j = l.length := by omega
      have fin : met = true ∧ lo = le ∧ hi = mo := by
        rcases hin with ⟨hm, _, hb⟩ | ⟨h0, hm, hle, hmo⟩
        · rw [List.take_length] at hb
          exact ⟨hm, bd.one hb⟩
        · refine ⟨by rw [hm, hlen, h0]; rfl, ?_⟩
          rcases bd with ⟨_, e1, e2⟩ | ⟨⟨x, hx, _⟩, _⟩
          · exact ⟨by rw [e1, hle], by rw [e2, hmo]⟩
          · rw [List.length_eq_zero_iff.1 h0] at hx; cases hx
      obtain ⟨rfl, rfl, rfl⟩ := fin
      unfold J3_law18_SplitBounds
      dsimp only
      exact cnd_yes rfl (cnd_yes (beq_self_eq_true _) (cnd_yes (beq_self_eq_true _) (c_lives18 fun g7 x7 => ⟨rfl, xx.trans x7⟩)))
  have la := ra.len
  have lb := rb.len
  refine cnd_dec.2 ⟨fun ha => cnd_dec.2 ⟨fun hb => cnd_dec.2 ⟨fun hgt => ?_, fun _ => J2⟩, fun _ => J2⟩, fun _ => J2⟩
  exfalso
  rcases bd1 with ⟨e, _⟩ | ⟨_, ⟨u, hu, rfl⟩, _⟩
  · have := congrArg List.length e; simp only [List.length_nil] at this; omega
  · rcases bd2 with ⟨e, _⟩ | ⟨⟨v, hv, rfl⟩, _, _⟩
    · have := congrArg List.length e; simp only [List.length_nil] at this; omega
    · obtain ⟨hu1, hu2⟩ := List.mem_filter.1 hu
      obtain ⟨hv1, hv2⟩ := List.mem_filter.1 hv
      have hu2 := of_decide_eq_true hu2
      have hv2 : ¬ (rank l v : Int) < k := by simpa using hv2
      have : flt v u = false := by
        cases hh : flt v u with
        | false => rfl
        | true => have := rank_mono hv1 hh; omega
      rw [flt_no] at this
      omega
theorem arg_far {h : Hp} {t e : TypeId} {m : Nat} {a : Option Addr} {len cap : Nat} (ht : Try.prog.underlying t = some (.slice e)) (hC : Try.prog.cellsOf e = 2) (hk : kinds Try.prog 16 e = some FT) (g : Arg Try.prog h t (.slice a len cap) m) : ∃ l : List (StA FT), RF h ⟨a, len, cap⟩ l := by
  obtain ⟨l, _, r, _⟩ := arg_rows (l := FT) ht hC hk g
  exact ⟨l, r⟩
theorem splitHalves_row (h : Hp) (a0 : Option Addr) (len0 cap0 : Nat) {m0 : Nat} (g0 : Arg Try.prog h T_Swaywiserref18_Far (.slice a0 len0 cap0) m0) (x1 : Int) (_ : (Lit.int .i64 x1).wf = true) {m1 : Nat} (_ : Arg Try.prog h T_int (.int .i64 x1) m1) :
    CallT Try.prog 3 [.slice a0 len0 cap0, .int .i64 x1] [.at .bool] h fun s h' => s.1 = true ∧ Ext h h' := by
  obtain ⟨l, r⟩ := arg_far (e := T_waywiserref18_Far) (by kernel_rfl) (by kernel_rfl) (by kernel_rfl) g0
  exact splitHalves_ok (s := ⟨a0, len0, cap0⟩) r
theorem splitBounds_row (h : Hp) (a0 : Option Addr) (len0 cap0 : Nat) {m0 : Nat} (g0 : Arg Try.prog h T_Swaywiserref18_Far (.slice a0 len0 cap0) m0) (x1 : Int) (_ : (Lit.int .i64 x1).wf = true) {m1 : Nat} (_ : Arg Try.prog h T_int (.int .i64 x1) m1) :
    CallT Try.prog 4 [.slice a0 len0 cap0, .int .i64 x1] [.at .bool] h fun s h' => s.1 = true ∧ Ext h h' := by
  obtain ⟨l, r⟩ := arg_far (e := T_waywiserref18_Far) (by kernel_rfl) (by kernel_rfl) (by kernel_rfl) g0
  exact splitBounds_ok (s := ⟨a0, len0, cap0⟩) r
end Go.Proofs.YtpcbppicjoolfaaF
