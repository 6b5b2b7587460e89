/- Chapter 11: HitsFind. No condition. -/
import Derived.Test.YtmbdmadahlbioaaHits
namespace Go.Proofs.YtmbdmadahlbioaaF
open Go Go.Proofs.YtmbdmadahlbioaaK
set_option linter.unusedSimpArgs false
set_option linter.unusedVariables false

theorem callV_fun {P : Program} {f : FuncId} {args : List Value} {lb : Array Value} {shs : List Sh} {h : Hp} {K : St shs → Hp → Prop} (he : entered P f = true) (hc : CallT P f (args ++ lb.toList) shs h K) : callV P (.func (.func f) #[] lb) args shs h K := by
  unfold callV callK
  simp only [he]
  have : (#[] ++ args.toArray ++ lb : Array Value) = (args ++ lb.toList).toArray := by
    apply Array.ext'
    simp
  rw [this]; exact hc
theorem take_snoc {α : Type} {l : List α} {k : Nat} {x : α} (h : l[k]? = some x) : l.take k ++ [x] = l.take (k + 1) := by
  rw [List.take_add_one, h]; rfl
theorem encU64h : Enc (Go.Proofs.YtmbdmadahlbioaaK.encI .u64) 1 := encI_ok _
theorem c_Ids {h : Hp} {s : Sl} {l : List (StA HT)} {K : Sl → Hp → Prop} (r : RH h s l) (hb : l.length * 16 ≤ 140737488355328) (hK : ∀ s' h', OwnRow (Go.Proofs.YtmbdmadahlbioaaK.encI .u64) 1 h.size h' s' (l.map hId) → Ext h h' → K s' h') : C_hits_Ids s h K := by
  have hls := r.len
  refine F_hits_Ids_ok _ _ _ ?_
  refine Lp.inv (fun st => ∃ k : Nat, st.1.2.1 = (k : Int) ∧ k ≤ l.length ∧ OwnRow (Go.Proofs.YtmbdmadahlbioaaK.encI .u64) 1 h.size st.2 st.1.1 ((l.take k).map hId) ∧ Ext h st.2) (fun st => l.length - st.1.2.1.toNat) ?_ ⟨0, rfl, by omega, by simpa using OwnRow.nil _ _ _ _, Ext.refl _⟩
  rintro ⟨⟨sO, i, ⟨⟩⟩, g⟩ R ⟨k, rfl, hk, oO, x1⟩ hR
  simp only at hk oO x1
  have hsz := x1.size
  unfold L1_hits_Ids
  dsimp only
  refine cnd_dec.2 ⟨fun hlt' => ?_, fun hge => ?_⟩
  · have hkl : k < l.length := by omega
    have hx : l[k]? = some l[k] := List.getElem?_eq_getElem hkl
    refine ld_row (i := (k : Int)) (x := l[k]) (r.ext x1) (by omega) hx fun a ha hc => ldA_row0 hc rfl (ldA_row hc rfl ?_)
    refine box_to [.int .u64 (hId l[k]), .int .i64 (hDi l[k])] rfl fun g1 b1 e1 z1 => ?_
    refine ldA_blk (s := .int .u64) (x := hId l[k]) b1 rfl ?_
    refine app1 (x := hId l[k]) encU64h (by decide) (oO.ext e1) (by omega) (by simp; omega) (by decide) rfl rfl fun s2 g2 o2 u2 b2 n2 => let_to ?_
    rw [wrap_i64 (by omega) (by omega)]
    refine hR _ ⟨k + 1, by simp, by omega, ?_, ((x1.trans e1).bel.trans b2).ext⟩ (by simp only; omega)
    rw [← take_snoc hx, List.map_append]; exact o2
  · obtain rfl : k = l.length := by omega
    rw [List.take_length] at oO
    exact hK sO g oO x1
theorem find_at {α : Type} {p : α → Bool} {l : List α} {k : Nat} {x : α} (hx : l[k]? = some x) (hn : (l.take k).find? p = none) (hp : p x = true) : l.find? p = some x := by
  have hlt := (List.getElem?_eq_some_iff.1 hx).1
  have : l = l.take k ++ (x :: l.drop (k + 1)) := by
    have hd : l.drop k = x :: l.drop (k + 1) := by rw [List.drop_eq_getElem_cons hlt, (List.getElem?_eq_some_iff.1 hx).2]
    rw [← hd, List.take_append_drop]
  rw [this, List.find?_append, hn, List.find?_cons_of_pos hp]; rfl
theorem c_IndexFunc {h : Hp} {s : Sl} {l : List (StA HT)} {v : Value} {p : StA HT → Bool} {K : Int → Hp → Prop} (r : RH h s l) (hb : l.length * 16 ≤ 140737488355328)
    (hv : ∀ x h' (K : Bool → Hp → Prop), Ext h h' → (∀ h'', Ext h' h'' → K (p x) h'') → callV Try.prog v [.agg #[.int .u64 (hId x), .int .i64 (hDi x)]] [.at .bool] h' fun s h' => K s.1 h')
    (hK : ∀ i h', Ext h h' → ((i = -1 ∧ l.find? p = none) ∨ ∃ (k : Nat) (x : StA HT), i = (k : Int) ∧ l[k]? = some x ∧ l.find? p = some x) → K i h') : C_slices_IndexFunc_api_Hit_api_Hit s v h K := by
  have hls := r.len
  refine F_slices_IndexFunc_api_Hit_api_Hit_ok _ _ _ _ ?_
  refine Lp.inv (fun st => ∃ k : Nat, st.1.1 = (k : Int) ∧ k ≤ l.length ∧ (l.take k).find? p = none ∧ Ext h st.2) (fun st => l.length - st.1.1.toNat) ?_ ⟨0, rfl, by omega, rfl, Ext.refl _⟩
  rintro ⟨⟨i, ⟨⟩⟩, g⟩ R ⟨k, rfl, hk, hn, x1⟩ hR
  simp only at hk hn x1
  unfold L1_slices_IndexFunc_api_Hit_api_Hit
  dsimp only
  refine cnd_dec.2 ⟨fun hlt' => ?_, fun hge => ?_⟩
  · have hkl : k < l.length := by omega
    have hx : l[k]? = some l[k] := List.getElem?_eq_getElem hkl
    refine ld_row (i := (k : Int)) (x := l[k]) (r.ext x1) (by omega) hx fun a ha hc => ldA_row0 hc rfl (ldA_row hc rfl ?_)
    refine callV.mono (hv l[k] g (fun b h' => b = p l[k] ∧ Ext g h') x1 fun h'' e => ⟨rfl, e⟩) ?_
    rintro ⟨b, ⟨⟩⟩ g2 ⟨hb2, e2⟩
    simp only at hb2
    subst hb2
    refine cnd_if (fun hp => ?_) fun hp => let_to ?_
    · exact hK k g2 (x1.trans e2) (.inr ⟨k, l[k], rfl, hx, find_at hx hn hp⟩)
    · rw [wrap_i64 (by omega) (by omega)]
      refine hR _ ⟨k + 1, by simp, by omega, ?_, x1.trans e2⟩ (by simp only; omega)
      rw [← take_snoc hx, List.find?_append, hn, List.find?_cons_of_neg (by rw [show p l[k] = false from hp]; simp)]; rfl
  · obtain rfl : k = l.length := by omega
    rw [List.take_length] at hn
    exact hK (-1) g x1 (.inl ⟨rfl, hn⟩)
def isId (id : Int) (x : StA HT) : Bool := hId x == id
def hz : StA HT := (0, 0, ())
theorem c_Find {h : Hp} {s : Sl} {l : List (StA HT)} {id : Int} {K : Int → Int → Bool → Hp → Prop} (r : RH h s l) (hb : l.length * 16 ≤ 140737488355328)
    (hK : ∀ h', Ext h h' → K (hId ((l.find? (isId id)).getD hz)) (hDi ((l.find? (isId id)).getD hz)) (l.find? (isId id)).isSome h') : C_hits_Find s id h K := by
  have hls := r.len
  refine F_hits_Find_ok _ _ _ _ (push_to fun h1 b1 e1 z1 => let_to (push_to fun h2 b2 e2 z2 => let_to ?_))
  have x2 := e1.trans e2
  have c1 := b1.ext e2
  refine c_IndexFunc (p := isId id) (r.ext x2) hb (fun x h' K' ex hk => ?_) fun i h3 e3 hcase => ?_
  · refine callV_fun (by kernel_rfl) ?_
    have hc : C_hits_Find_1 (hId x) (hDi x) (some ⟨h.size, 0, none⟩) h' K' := by
      refine F_hits_Find_1_ok _ _ _ _ _ (push_to fun g1 d1 f1 w1 => let_to (ldA_blk (s := .int .u64) (x := hId x) d1 rfl ?_))
      exact ldA_blk (s := .int .u64) (x := id) ((c1.ext ex).ext f1) rfl (hk g1 f1)
    exact hc
  · have d2 := b2.ext e3
    have sz := x2.size
    rcases hcase with ⟨rfl, hn⟩ | ⟨k, x, rfl, hx, hf⟩
    · rw [hn] at hK
      refine cnd_yes rfl ?_
      refine stores_blk (vs := [.int .u64 0, .int .i64 0]) d2 rfl fun h4 b4 u4 _ z4 => ?_
      simp only [List.take_zero, List.nil_append] at b4
      refine ldA_blk (s := .int .u64) (x := 0) b4 rfl (ldA_blk (s := .int .i64) (i := 1) (x := 0) b4 rfl ?_)
      exact hK h4 ((x2.trans e3).only_new u4 (by omega))
    · rw [hf] at hK
      refine cnd_no (by rw [decide_eq_false_iff_not]; omega) ?_
      refine ld_row (i := (k : Int)) (x := x) (r.ext (x2.trans e3)) (by omega) hx fun a ha hc => ldA_row0 hc rfl (ldA_row hc rfl ?_)
      refine stores_blk (vs := [.int .u64 (hId x), .int .i64 (hDi x)]) d2 rfl fun h4 b4 u4 _ z4 => ?_
      simp only [List.take_zero, List.nil_append] at b4
      refine ldA_blk (s := .int .u64) (x := hId x) b4 rfl (ldA_blk (s := .int .i64) (i := 1) (x := hDi x) b4 rfl ?_)
      exact hK h4 ((x2.trans e3).only_new u4 (by omega))
theorem hitsFind_ok {h : Hp} {s : Sl} {l : List (StA HT)} {id : Int} (r : RH h s l) (hb : l.length * 16 ≤ 140737488355328) : C_law11_HitsFind s id h fun b h' => b = true ∧ Ext h h' := by
  have hls := r.len
  refine F_law11_HitsFind_ok _ _ _ _ (c_Ids r hb fun s1 h1 o1 e1 => c_Find (r.ext e1) hb fun h2 e2 => push_to fun h3 b3 e3 z3 => let_to ?_)
  have hl1 := o1.row.len
  rw [List.length_map] at hl1
  generalize hw : (l.find? (isId id)).getD hz = w
  generalize hbb : (l.find? (isId id)).isSome = bb
  refine stores_blk (vs := [.int .u64 (hId w), .int .i64 (hDi w)]) b3 rfl fun h4 b4 u4 _ z4 => ?_
  simp only [List.take_zero, List.nil_append] at b4
  refine stores_blk (vs := [.int .u64 0, .int .i64 0]) (Blk.new h4 #[.int .u64 0, .int .i64 0] _) rfl fun h6 b6 u6 _ z6 => ?_
  simp only [List.take_zero, List.nil_append] at b6
  have x4 : Ext h1 h4 := (e2.trans e3).only_new u4 e2.size
  have x6 : Ext h1 h6 := (x4.trans (Ext.push h4 _)).only_new u6 x4.size
  have sz4 := x4.size
  have sz2 := e2.size
  have d4 : Blk h6 h2.size #[.int .u64 (hId w), .int .i64 (hDi w)] := (b4.ext (Ext.push h4 _)).only u6 (by omega)
  refine Lp.inv (fun st => ∃ k : Nat, st.1.2.1 = (k : Int) ∧ k ≤ l.length ∧ st.1.1 = ((l.take k).find? (isId id)).isSome ∧ Blk st.2 h4.size #[.int .u64 (hId (((l.take k).find? (isId id)).getD hz)), .int .i64 (hDi (((l.take k).find? (isId id)).getD hz))] ∧ Only h4.size h6 st.2 ∧ st.2.size = h6.size) (fun st => l.length - st.1.2.1.toNat) ?_
    ⟨0, rfl, by omega, rfl, b6, Only.refl _ _, rfl⟩
  rintro ⟨⟨dn, i, ⟨⟩⟩, g⟩ R ⟨k, rfl, hk, rfl, bw, on, sz⟩ hR
  simp only at hk bw on sz
  have xg : Ext h1 g := x6.only_new on (by omega)
  have rg := r.ext (e1.trans xg)
  have og := o1.row.ext xg
  unfold L1_law11_HitsFind
  dsimp only
  refine cnd_dec.2 ⟨fun hlt' => ?_, fun hge => ?_⟩
  · have hkl : k < l.length := by omega
    have hx : l[k]? = some l[k] := List.getElem?_eq_getElem hkl
    have hxi : (l.map hId)[k]? = some (hId l[k]) := by rw [List.getElem?_map, hx]; rfl
    rw [Jn_eq]
    refine cnd_no (by rw [decide_eq_false_iff_not]; omega) ?_
    refine ld_int0 (i := (k : Int)) (x := hId l[k]) og (by omega) hxi ?_
    refine ld_row (i := (k : Int)) (x := l[k]) rg (by omega) hx fun a ha hc => ldA_row0 hc rfl (cnd_bne.2 ⟨fun hne => (hne rfl).elim, fun _ => ?_⟩)
    unfold J2_law11_HitsFind
    dsimp only
    rw [Jn_eq]
    refine ld_row (i := (k : Int)) (x := l[k]) rg (by omega) hx fun a ha hc => ldA_row0 hc rfl ?_
    have hf : (l.take (k + 1)).find? (isId id) = ((l.take k).find? (isId id)).or (if isId id l[k] then some l[k] else none) := by
      rw [← take_snoc hx, List.find?_append]
      congr 1
      cases hp : isId id l[k] with
      | true => rw [List.find?_cons_of_pos hp]; rfl
      | false => rw [List.find?_cons_of_neg (by rw [hp]; simp)]; rfl
    have stay : (l.take (k + 1)).find? (isId id) = (l.take k).find? (isId id) → Let (IntKind.wrap .i64 ((k : Int) + 1)) fun t => R ((((l.take k).find? (isId id)).isSome, t, ()), g) := fun e => by
      rw [Let_eq, wrap_i64 (by omega) (by omega)]
      exact hR _ ⟨k + 1, by simp, by omega, by simp only; rw [e], by rw [e]; exact bw, on, sz⟩ (by simp only; omega)
    refine cnd_beq.2 ⟨fun he => ?_, fun hne => ?_⟩
    · have hp : isId id l[k] = true := by unfold isId; rw [beq_iff_eq]; exact he
      rw [hp, if_pos rfl] at hf
      unfold J3_law11_HitsFind
      dsimp only
      cases hpre : (l.take k).find? (isId id) with
      | some y =>
        rw [hpre] at hf stay
        refine cnd_no rfl (stay (by rw [hf]; rfl))
      | none =>
        rw [hpre] at hf bw
        refine cnd_yes rfl ?_
        refine ld_row (i := (k : Int)) (x := l[k]) rg (by omega) hx fun a ha hc => ldA_row0 hc rfl (ldA_row hc rfl ?_)
        refine stores_blk (vs := [.int .u64 (hId l[k]), .int .i64 (hDi l[k])]) bw rfl fun g2 b2 u2 _ z2 => let_to ?_
        simp only [List.take_zero, List.nil_append] at b2
        rw [wrap_i64 (by omega) (by omega)]
        exact hR _ ⟨k + 1, by simp, by omega, by simp only; rw [hf]; rfl, by rw [hf]; exact b2, on.trans u2, by simp only; omega⟩ (by simp only; omega)
    · have hp : isId id l[k] = false := by unfold isId; rw [beq_eq_false_iff_ne]; exact hne
      rw [hp, if_neg (by simp), Option.or_none] at hf
      unfold J3_law11_HitsFind
      dsimp only
      exact cnd_no rfl (stay hf)
  · obtain rfl : k = l.length := by omega
    rw [List.take_length, hw] at bw
    rw [List.take_length]
    unfold J1_law11_HitsFind
    dsimp only
    refine cnd_yes (by rw [beq_iff_eq]; omega) ?_
    have dw : Blk g h2.size #[.int .u64 (hId w), .int .i64 (hDi w)] := d4.only on (by omega)
    refine ldA_blk (s := .int .u64) (x := hId w) dw rfl (ldA_blk (s := .int .i64) (i := 1) (x := hDi w) dw rfl (ldA_blk (s := .int .u64) (x := hId w) bw rfl (ldA_blk (s := .int .i64) (i := 1) (x := hDi w) bw rfl ?_)))
    refine cnd_yes (by simp) (cnd_yes (by rw [hbb]; simp) ?_)
    exact h_lives11 fun h9 e9 => ⟨rfl, (e1.trans xg).trans e9⟩
end Go.Proofs.YtmbdmadahlbioaaF
