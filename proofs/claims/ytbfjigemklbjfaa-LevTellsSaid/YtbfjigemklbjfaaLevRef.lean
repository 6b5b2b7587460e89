/- Chapter 8: the document's distance, cell by cell of the whole table. No condition. -/
import Derived.Test.YtbfjigemklbjfaaLevD
namespace Go.Proofs.YtbfjigemklbjfaaF
open Go Go.Proofs.YtbfjigemklbjfaaK
set_option linter.unusedSimpArgs false
set_option linter.unusedVariables false

abbrev eS (s : Sl) : List Value := [.slice s.a s.len s.cap]
theorem eS_ok : Enc eS 1 := ⟨fun _ => rfl, fun x v hv => by obtain rfl := List.mem_singleton.1 hv; rfl⟩
/-- The rows that stand already. -/
def Rows (a b : List Int) (B : Nat) (h : Hp) (t : Sl) (ss : List Sl) : Prop :=
  ∀ j s, ss[j]? = some s → IsRow eJ 1 h s (rowT a b j) ∧ ∀ x, s.a = some x → x.block < h.size ∧ ∀ c, t.a = some c → x.block ≠ c.block
theorem ld_sl {h : Hp} {s : Sl} {ss : List Sl} (r : IsRow eS 1 h s ss) {i : Int} {k : Nat} {x : Sl} (hi : i = k) (hx : ss[k]? = some x) {K : Sl → Prop} (hK : K x) : idxS s.a s.len i 1 fun p => ldA .sl h p K := by
  subst hi
  exact ld_row (i := (k : Int)) (x := x) r (by omega) hx fun a ha hc => ldA_row0 (s := .sl) (x := x) hc rfl hK
theorem ref08_Dist {a b : ByteArray} {h : Hp} {K : Int → Hp → Prop} (ha : a.size ≤ 1048576) (hb : b.size ≤ 1048576) (hK : ∀ h', Ext h h' → K (ed (bts a) (bts b)) h') : C_ref08_Dist a b h K := by
  have la := bts_len a
  have lb := bts_len b
  refine F_ref08_Dist_ok _ _ _ _ ?_
  unfold F_ref08_Dist
  rw [Jn_eq]
  refine Lp.inv (fun st => ∃ (i : Nat) (ss : List Sl), st.1.2.1 = (i : Int) ∧ i ≤ a.size + 1 ∧ ss.length = i ∧ OwnRow eS 1 h.size st.2 st.1.1 ss ∧ Rows (bts a) (bts b) h.size st.2 st.1.1 ss ∧ Ext h st.2) (fun st => a.size + 1 - st.1.2.1.toNat) ?_
    ⟨0, [], rfl, by omega, rfl, OwnRow.nil _ _ _ _, fun j s hs => (by cases hs), Ext.refl _⟩
  rintro ⟨⟨t, i, ⟨⟩⟩, g⟩ R ⟨i, ss, rfl, hi, hss, ot, rows, x⟩ hR
  simp only at hi ot rows x
  have tlt := ot.lt
  unfold L1_ref08_Dist
  dsimp only
  refine cnd_dec.2 ⟨fun hle => ?_, fun hgt => ?_⟩
  · refine Lp.inv (fun st => ∃ k : Nat, st.1.2.1 = (k : Int) ∧ k ≤ b.size + 1 ∧ OwnRow eJ 1 g.size st.2 st.1.1 ((rowT (bts a) (bts b) i).take k) ∧ Bel g.size g st.2) (fun st => b.size + 1 - st.1.2.1.toNat) ?_ ⟨0, rfl, by omega, by simpa using OwnRow.nil _ _ _ _, Bel.refl _ _⟩
    rintro ⟨⟨rw', k, ⟨⟩⟩, g2⟩ R2 ⟨k, rfl, hk, oR, bl⟩ hR2
    simp only at hk oR bl
    have hsz := bl.size
    have ot2 : OwnRow eS 1 h.size g2 t ss := ot.bel bl tlt
    unfold L2_ref08_Dist
    dsimp only
    refine cnd_dec.2 ⟨fun hkb => let_to ?_, fun hkb => ?_⟩
    · have put : ∀ d : Int, d = (T (bts a) (bts b) i k : Int) → ∀ {c : Array Value}, c = #[.int .i64 d] → ∀ {e1 : TypeId} {e : TypeId}, Let (Array.push g2 (Obj.cells c e1)) fun h24 => Let (Addr.mk (Array.size g2) 0 none) fun p25 =>
          appS e 1 8 [.int .i64 0] rw'.a rw'.len rw'.cap (.slice (some p25) 1 1) h24 fun t26 h27 => Let (IntKind.wrap .i64 ((k : Int) + 1)) fun t28 => R2 ((t26, t28, ()), h27) := by
        intro d hd c hc e1 e
        subst hc
        refine app1 (x := d) eJ_ok (by decide) oR hsz (by rw [List.length_take, rowT_len]; omega) (by decide) rfl rfl fun s3 g3 o3 u3 b3 n3 => let_to ?_
        rw [wrap_i64 (by omega) (by omega)]
        refine hR2 _ ⟨k + 1, by simp, by omega, ?_, bl.trans b3⟩ (by simp only; omega)
        rw [List.take_add_one, rowT_get (by omega), ← hd]; exact o3
      have hTl := T_le (bts a) (bts b) i k
      rw [Jn_eq, wrap_i64 (by omega) (by omega)]
      have zero : i = 0 ∨ k = 0 → J2_ref08_Dist a b ((t, (i : Int), ()), g) ((rw', (k : Int), ()), g2) R2 ((i : Int) + (k : Int)) (false, ()) g2 := by
        intro hz
        unfold J2_ref08_Dist
        refine cnd_no rfl (put _ ?_ rfl)
        rcases hz with e | e
        · subst e; rw [T_zeroL _ _ (by omega)]; omega
        · subst e; rw [T_zeroR _ _ (by omega)]; omega
      have both : 0 < i → 0 < k → J2_ref08_Dist a b ((t, (i : Int), ()), g) ((rw', (k : Int), ()), g2) R2 ((i : Int) + (k : Int)) (true, ()) g2 := by
        intro hi0 hk0
        obtain ⟨i', rfl⟩ : ∃ i', i = i' + 1 := ⟨i - 1, by omega⟩
        obtain ⟨k', rfl⟩ : ∃ k', k = k' + 1 := ⟨k - 1, by omega⟩
        have hs : ss[i']? = some ss[i'] := List.getElem?_eq_getElem (by omega)
        have hrow := (rows i' _ hs)
        have rs : IsRow eJ 1 g2 ss[i'] (rowT (bts a) (bts b) i') := hrow.1.bel (fun x hx => (hrow.2 x hx).1) bl
        have hxa := bts_get (s := a) (k := i') (by omega)
        have hyb := bts_get (s := b) (k := k') (by omega)
        have hst := T_step hxa hyb
        have t1 := T_le (bts a) (bts b) i' k'
        have t2 := T_le (bts a) (bts b) i' (k' + 1)
        have t3 := T_le (bts a) (bts b) (i' + 1) k'
        have w1 : IntKind.wrap .i64 (((i' + 1 : Nat) : Int) - 1) = (i' : Int) := by rw [wrap_i64 (by omega) (by omega)]; omega
        have w2 : IntKind.wrap .i64 (((k' + 1 : Nat) : Int) - 1) = (k' : Int) := by rw [wrap_i64 (by omega) (by omega)]; omega
        unfold J2_ref08_Dist
        refine cnd_yes rfl (let_to ?_)
        dsimp only
        rw [w1]
        refine ld_sl (k := i') ot2.row rfl hs (let_to ?_)
        rw [w2]
        refine ld_int0 (i := (k' : Int)) (x := (T (bts a) (bts b) i' k' : Int)) rs (by omega) (rowT_get (by omega)) ?_
        have J3 : ∀ d : Int, d = ((T (bts a) (bts b) i' k' + bne1 (a[i']).toNat (b[k']).toNat : Nat) : Int) → J3_ref08_Dist ((t, ((i' + 1 : Nat) : Int), ()), g) ((rw', ((k' + 1 : Nat) : Int), ()), g2) R2 (d, ()) g2 := by
          intro d hd
          unfold J3_ref08_Dist
          dsimp only
          refine let_to ?_
          rw [w1]
          refine ld_sl (k := i') ot2.row rfl hs ?_
          refine ld_int0 (i := ((k' + 1 : Nat) : Int)) (x := (T (bts a) (bts b) i' (k' + 1) : Int)) rs (by omega) (rowT_get (by omega)) (let_to (let_to ?_))
          rw [w2]
          refine ld_int0 (i := (k' : Int)) (x := (T (bts a) (bts b) (i' + 1) k' : Int)) oR.row (by omega) (by rw [Int.toNat_natCast, List.getElem?_take, if_pos (by omega)]; exact rowT_get (by omega)) (let_to (let_to (let_to ?_)))
          refine put _ ?_ rfl
          rw [wrap_i64 (x := (T (bts a) (bts b) i' (k' + 1) : Int) + 1) (by omega) (by omega), wrap_i64 (by omega) (by omega)]
          rw [hd, hst]
          (repeat' split) <;> omega
        rw [Jn_eq]
        refine let_to ?_
        refine idx_str rfl hxa (let_to ?_)
        refine idx_str rfl hyb (cnd_bne.2 ⟨fun hne => let_to (J3 _ ?_), fun he => J3 _ ?_⟩)
        · rw [wrap_i64 (by omega) (by omega)]
          unfold bne1; rw [if_neg hne]; omega
        · unfold bne1; rw [if_pos he]; omega
      refine cnd_dec.2 ⟨fun hpos => ?_, fun hz => zero (by omega)⟩
      by_cases hk0 : 0 < k
      · rw [show decide ((k : Int) > 0) = true by rw [decide_eq_true_iff]; omega]
        exact both (by omega) hk0
      · rw [show decide ((k : Int) > 0) = false by rw [decide_eq_false_iff_not]; omega]
        exact zero (by omega)
    · obtain rfl : k = b.size + 1 := by omega
      have hfull : (rowT (bts a) (bts b) i).take (b.size + 1) = rowT (bts a) (bts b) i := by rw [List.take_of_length_le]; rw [rowT_len]; omega
      rw [hfull] at oR
      have hsz0 := x.size
      refine app1 (x := rw') eS_ok (by decide) ot2 (by omega) (by omega) (by decide) rfl rfl fun t' g3 o3 u3 b3 n3 => let_to ?_
      rw [wrap_i64 (by omega) (by omega)]
      have rlt := oR.lt
      have rab := oR.above
      have x3 : Ext h g3 := ((x.bel.trans (bl.mono hsz0)).trans b3).ext
      have fresh : ∀ y : Nat, y < g2.size → (∀ c, t.a = some c → y ≠ c.block) → ∀ c, t'.a = some c → y ≠ c.block := fun y hy hn c hc => by
        rcases n3 with e | ⟨q, e, hq⟩
        · exact hn c (by rw [← e]; exact hc)
        · rw [e] at hc; cases hc; simp only; omega
      refine hR _ ⟨i + 1, ss ++ [rw'], by simp, by omega, by simp [hss], o3, fun j s hs => ?_, x3⟩ (by simp only; omega)
      have us := u3.1
      by_cases hj : j < ss.length
      · rw [List.getElem?_append_left hj] at hs
        obtain ⟨h1, h2⟩ := rows j s hs
        have h1' : IsRow eJ 1 g2 s (rowT (bts a) (bts b) j) := h1.bel (fun x hx => (h2 x hx).1) bl
        refine ⟨h1'.onlyS u3 (fun x hx => by have := (h2 x hx).1; omega) fun c hc x hx => (h2 x hx).2 c hc, fun x hx => ⟨?_, ?_⟩⟩
        · have := (h2 x hx).1; show x.block < g3.size; omega
        · exact fresh _ (by have := (h2 x hx).1; omega) (h2 x hx).2
      · rw [List.getElem?_append_right (by omega)] at hs
        have hj0 : j - ss.length = 0 := by
          have := (List.getElem?_eq_some_iff.1 hs).1
          simp at this; omega
        rw [hj0] at hs
        simp at hs
        subst hs
        have hji : j = i := by omega
        subst hji
        have hne : ∀ c, t.a = some c → ∀ x, rw'.a = some x → x.block ≠ c.block := fun c hc x hx => by have := tlt c hc; have := rab x hx; omega
        refine ⟨oR.row.onlyS u3 rlt hne, fun x hx => ⟨?_, ?_⟩⟩
        · have := rlt x hx; show x.block < g3.size; omega
        · exact fresh _ (rlt x hx) fun c hc => hne c hc x hx
  · have hi2 : i = a.size + 1 := by omega
    subst hi2
    have hs : ss[a.size]? = some (ss[a.size]'(by omega)) := List.getElem?_eq_getElem (by omega)
    have hrow := rows _ _ hs
    unfold J1_ref08_Dist
    refine ld_sl (k := a.size) ot.row rfl hs ?_
    refine ld_int0 (i := (b.size : Int)) (x := (T (bts a) (bts b) a.size b.size : Int)) hrow.1 (by omega) (rowT_get (by omega)) ?_
    have : T (bts a) (bts b) a.size b.size = ed (bts a) (bts b) := by rw [← la, ← lb, T_all]
    rw [this]
    exact hK g x
end Go.Proofs.YtbfjigemklbjfaaF
