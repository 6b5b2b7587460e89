/- Chapter 17: the document's answers; lives; ScanTells, ScanPairs, ScanNone. No condition of their own. -/
import Derived.Test.YtlbpmophbmbfiaaScanP
namespace Go.Proofs.YtlbpmophbmbfiaaF
open Go Go.Proofs.YtlbpmophbmbfiaaK
set_option linter.unusedSimpArgs false
set_option linter.unusedVariables false

theorem r_All {p : Nat} {m : Int} {h h0 : Hp} {sl : Sl} {l : List It} {x : StA OT} {q : Ob} {K : Sl → Hp → Prop} (x0 : Ext h0 h) (ol : IRow p h0 sl l) (rx : ObR h0 x q) (hl : l.length ≤ 1048576)
    (hK : ∀ s h', OwnRow (vsA HT) 2 h.size h' s (srt (l.map (hitOf (od m) q))) → Ext h h' → K s h') : C_ref17_All m sl (oTag x) (oVec x) (oStr x) h K := by
  refine F_ref17_All_ok _ _ _ _ _ _ _ (push_to fun h1 b1 e1 z1 => let_to ?_)
  have hlen := ol.len
  refine Lp.inv (fun st => ∃ k : Nat, st.1.2.1 = (k : Int) ∧ k ≤ l.length ∧ OwnRow (vsA HT) 2 h.size st.2 st.1.1 (srt ((l.take k).map (hitOf (od m) q))) ∧ Ext h1 st.2) (fun st => l.length - st.1.2.1.toNat) ?_ ⟨0, rfl, by omega, OwnRow.nil _ _ _ _, Ext.refl _⟩
  rintro ⟨⟨s, k', ⟨⟩⟩, g⟩ R ⟨k, rfl, hk, os, x1⟩ hR
  simp only at os x1
  have xg := x0.trans (e1.trans x1)
  unfold L1_ref17_All
  dsimp only
  refine cnd_dec.2 ⟨fun hlt => ?_, fun hge => ?_⟩
  · have hy : l[k]? = some (l[k]'(by omega)) := List.getElem?_eq_getElem (by omega)
    have htk := take_snoc hy
    generalize l[k]'(by omega) = y at hy htk
    have b1g := b1.ext x1
    refine ld_it ol (xg.only p) (i := (k : Int)) (by omega) (by rw [Int.toNat_natCast]; exact hy) fun a yy ca hid ry => ?_
    refine ldA_row0 (s := .int .u64) (x := iId yy) ca rfl (ldA_blk (s := .int .i64) (x := oTag x) b1g rfl (ldA_blk (s := .sl) (i := 1) (x := oVec x) b1g rfl (ldA_blk (s := .str) (i := 2) (x := oStr x) b1g rfl ?_)))
    refine ld_it ol (xg.only p) (i := (k : Int)) (by omega) (by rw [Int.toNat_natCast]; exact hy) fun b zz cb hidz rz => ?_
    rw [add_add', add_add']
    refine ldA_row (s := .int .i64) (j := 1) (x := oTag (iOb zz)) cb rfl (ldA_row (s := .sl) (j := 2) (x := oVec (iOb zz)) cb rfl (ldA_row (s := .str) (j := 3) (x := oStr (iOb zz)) cb rfl ?_))
    refine c_rDist (rx.ext xg) (rz.ob.ext xg) fun g2 e2 => ⟨e2, ?_⟩
    have z2 := (e1.trans (x1.trans e2)).size
    rw [show iId yy = hId (hitOf (od m) q y) from hid, show od m q y.2 = hDi (hitOf (od m) q y) from rfl]
    refine c_hPut (os.ext e2).row (by rw [srt_len, List.length_map, List.length_take]; omega) fun s3 g3 o3 e3 => let_to ?_
    rw [wrap_i64 (by omega) (by omega)]
    refine hR _ ⟨k + 1, by simp, by omega, ?_, x1.trans (e2.trans e3)⟩ (by simp only; omega)
    rw [← htk, List.map_append, List.map_singleton, srt_snoc]; exact o3.weaken z2
  · obtain rfl : k = l.length := by omega
    rw [List.take_length] at os
    exact hK _ _ os (e1.trans x1)
theorem c_Within {h : Hp} {s : Sl} {l : List (StA HT)} {r : Int} {K : Sl → Hp → Prop} (rl : RH h s l) (hb : l.length * 16 ≤ 140737488355328) (hK : ∀ s' h', OwnRow (vsA HT) 2 h.size h' s' (l.filter fun x => decide (hDi x ≤ r)) → Ext h h' → K s' h') : C_ref11_Within s r h K := by
  have hls := rl.len
  refine F_ref11_Within_ok _ _ _ _ ?_
  refine Lp.inv (fun st => ∃ k : Nat, st.1.2.1 = (k : Int) ∧ k ≤ l.length ∧ OwnRow (vsA HT) 2 h.size st.2 st.1.1 ((l.take k).filter fun x => decide (hDi x ≤ r)) ∧ Ext h st.2) (fun st => l.length - st.1.2.1.toNat) ?_ ⟨0, rfl, by omega, OwnRow.nil _ _ _ _, Ext.refl _⟩
  rintro ⟨⟨s1, k', ⟨⟩⟩, g⟩ R ⟨k, rfl, hk, os, x1⟩ hR
  simp only at os x1
  have hfl : ((l.take k).filter fun x => decide (hDi x ≤ r)).length ≤ k := by
    have := List.length_filter_le (fun x => decide (hDi x ≤ r)) (l.take k)
    rw [List.length_take] at this
    omega
  unfold L1_ref11_Within
  dsimp only
  refine cnd_dec.2 ⟨fun hlt => ?_, fun hge => ?_⟩
  · have hy : l[k]? = some (l[k]'(by omega)) := List.getElem?_eq_getElem (by omega)
    have htk := take_snoc hy
    generalize l[k]'(by omega) = y at hy htk
    refine ld_row (rl.ext x1) (i := (k : Int)) (x := y) (by omega) (by rw [Int.toNat_natCast]; exact hy) fun a ha ca => ?_
    refine ldA_row (s := .int .i64) (j := 1) (x := hDi y) ca rfl (cnd_dec.2 ⟨fun hle => ?_, fun hn => let_to ?_⟩)
    · refine ld_row (rl.ext x1) (i := (k : Int)) (x := y) (by omega) (by rw [Int.toNat_natCast]; exact hy) fun a2 ha2 ca2 => ?_
      refine ldA_row0 (s := .int .u64) (x := hId y) ca2 rfl (ldA_row (s := .int .i64) (j := 1) (x := hDi y) ca2 rfl ?_)
      refine app1 (x := y) encHT (by decide) os x1.size (by omega) (by decide) rfl rfl fun s3 g3 o3 u3 b3 _ => let_to ?_
      rw [wrap_i64 (by omega) (by omega)]
      refine hR _ ⟨k + 1, by simp, by omega, ?_, (x1.bel.trans b3).ext⟩ (by simp only; omega)
      rw [← htk, List.filter_append, List.filter_cons_of_pos (by simpa using hle)]; exact o3
    · rw [wrap_i64 (by omega) (by omega)]
      refine hR _ ⟨k + 1, by simp, by omega, ?_, x1⟩ (by simp only; omega)
      rw [← htk, List.filter_append, List.filter_cons_of_neg (by simpa using hn)]; simpa using os
  · obtain rfl : k = l.length := by omega
    rw [List.take_length] at os
    exact hK _ _ os x1
theorem srt_filter (p : StA HT → Bool) (l : List (StA HT)) : (srt l).filter p = srt (l.filter p) := srt_eq ((srt_perm l).filter p) ((srt_srt l).sublist List.filter_sublist)
abbrev odU (m : Int) (most : Int) (a b : Ob) : Int × Bool := (if od m a b ≤ most then od m a b else 0, decide (od m a b ≤ most))
theorem rng_od (m r : Int) (q : Ob) : ∀ l : List It, l.filterMap (rngOf (odU m) r q) = (l.map (hitOf (od m) q)).filter fun x => decide (hDi x ≤ r)
  | [] => rfl
  | y :: l => by
    rw [List.map_cons, List.filterMap_cons]
    by_cases h : od m q y.2 ≤ r
    · have : rngOf (odU m) r q y = some (hitOf (od m) q y) := by unfold rngOf odU hitOf; simp only; rw [if_pos (decide_eq_true h), if_pos h]
      rw [this, List.filter_cons_of_pos (p := fun x : StA HT => decide (hDi x ≤ r)) (a := hitOf (od m) q y) (decide_eq_true h)]
      simp only [rng_od m r q l]
    · have : rngOf (odU m) r q y = none := by unfold rngOf odU; simp only; rw [if_neg (by simpa using h)]
      rw [this, List.filter_cons_of_neg (p := fun x : StA HT => decide (hDi x ≤ r)) (a := hitOf (od m) q y) (fun e => h (of_decide_eq_true e))]
      exact rng_od m r q l
/-! lives. -/
theorem lives_keep : keep 1 (([(1, [], ByteArray.mk #[97, 98, 99]), (2, [], ByteArray.mk #[97, 98, 100])] : List It).map (hitOf (od 2) ([], ByteArray.mk #[97, 98, 100]))) = [((2, 0, ()) : StA HT)] := by rfl
theorem ob_text {p : Nat} {h : Hp} {t : Int} {b : ByteArray} (hb : b.size ≤ 1048576) : ObA p h (t, ⟨none, 0, 0⟩, b, ()) ([], b) :=
  ⟨⟨rfl, IsRow.nil _ _ _ _, fun x hx => (by cases hx), Nat.zero_le _, hb⟩, fun h => absurd rfl h⟩
theorem l_lives17 {h : Hp} {K : Bool → Hp → Prop} (hK : ∀ h', Ext h h' → K true h') : C_law17_lives h K := by
  refine F_law17_lives_ok _ _ (push_to fun h1 b1 e1 z1 => let_to (m_New fun h4 e4 q4 => ?_))
  let x1 : StA IT := (1, 2, ⟨none, 0, 0⟩, ByteArray.mk #[97, 98, 99], ())
  let x2 : StA IT := (2, 2, ⟨none, 0, 0⟩, ByteArray.mk #[97, 98, 100], ())
  have row : IsRow (vsA IT) 4 h1 ⟨some ⟨h.size, 0, none⟩, 2, 2⟩ [x1, x2] := Blk.row encIT b1 (l := [x1, x2]) (cap := 2) (Nat.le_refl _) rfl
  have ir : IRow h1.size h1 ⟨some ⟨h.size, 0, none⟩, 2, 2⟩ [(1, [], ByteArray.mk #[97, 98, 99]), (2, [], ByteArray.mk #[97, 98, 100])] := by
    refine ⟨_, row, rfl, notAt_of encIT (by decide) row (Nat.le_refl _), fun i x o hx ho => ?_⟩
    match i, hx, ho with
    | 0, hx, ho => cases hx; cases ho; exact ⟨rfl, ob_text (by decide)⟩
    | 1, hx, ho => cases hx; cases ho; exact ⟨rfl, ob_text (by decide)⟩
    | _ + 2, hx, ho => simp at hx
  have hlt := q4.lt
  refine s_Near (mtr_some h1.size 2) (c := 0) (x := (2, ⟨none, 0, 0⟩, ByteArray.mk #[97, 98, 100], ())) (q := ([], ByteArray.mk #[97, 98, 100])) q4 (by decide) (e4.only _) ir (ob_text (by decide)) (by decide) hlt (by decide) fun s h6 r6 _ on => ?_
  rw [show (1 : Int).toNat = 1 from rfl, lives_keep] at r6
  have l6 := r6.len
  simp only [List.length_cons, List.length_nil] at l6
  refine cnd_yes (by rw [l6]; rfl) ?_
  refine ld_row r6 (i := 0) (x := ((2, 0, ()) : StA HT)) (by decide) rfl fun a ha ca => ?_
  refine ldA_row0 (s := .int .u64) (x := 2) ca rfl (ldA_row (s := .int .i64) (j := 1) (x := 0) ca rfl ?_)
  exact hK _ (e1.trans (e4.only_new on (Nat.le_refl _)))

/-! The laws. -/
abbrev KT : List At := [.int .i64, .sl, .int .i64, .sl, .str, .int .i64, .int .i64]
abbrev kM (x : StA KT) : Int := x.1
abbrev kL (x : StA KT) : Sl := x.2.1
abbrev kQ (x : StA KT) : StA OT := (x.2.2.1, x.2.2.2.1, x.2.2.2.2.1, ())
abbrev kR (x : StA KT) : Int := x.2.2.2.2.2.1
abbrev kK (x : StA KT) : Int := x.2.2.2.2.2.2.1
abbrev kCells (x : StA KT) : Array Value := #[.int .i64 (kM x), .slice (kL x).a (kL x).len (kL x).cap, .int .i64 (oTag (kQ x)), .slice (oVec (kQ x)).a (oVec (kQ x)).len (oVec (kQ x)).cap, .string (oStr (kQ x)), .int .i64 (kR x), .int .i64 (kK x)]
theorem xrow_nil (h : Hp) : XRow h ⟨none, 0, 0⟩ [] := ⟨[], IsRow.nil _ _ _ _, rfl, fun i x o hx _ => by simp at hx⟩
theorem scanTells_ok {x : StA KT} {l : List It} {q : Ob} {h : Hp} (r : XIRow h (kL x) l) (rq : ObX h (kQ x) q) (hl : l.length ≤ 140737488355328) (hk : -9223372036854775808 ≤ kK x ∧ kK x ≤ 9223372036854775807) :
    C_law17_ScanTells (kM x) (kL x) (oTag (kQ x)) (oVec (kQ x)) (oStr (kQ x)) (kR x) (kK x) h fun b h' => b = true ∧ Ext h h' := by
  refine F_law17_ScanTells_ok _ _ _ _ _ _ _ _ _ (push_to fun h1 b1 e1 z1 => let_to ?_)
  have bx : Blk h1 h.size (kCells x) := b1
  refine ldA_blk (s := .sl) (i := 1) (x := kL x) bx rfl (ldA_blk (s := .int .i64) (i := 2) (x := oTag (kQ x)) bx rfl (ldA_blk (s := .sl) (i := 3) (x := oVec (kQ x)) bx rfl (ldA_blk (s := .str) (i := 4) (x := oStr (kQ x)) bx rfl ?_)))
  refine push_to fun h7 b7 e7 z7 => let_to ?_
  have x7 := e1.trans e7
  have rowq : XRow h7 ⟨some ⟨h1.size, 0, none⟩, 1, 1⟩ [q] := by
    refine ⟨[kQ x], Blk.row encOT b7 (l := [kQ x]) (cap := 1) (Nat.le_refl _) rfl, rfl, fun i u o hu ho => ?_⟩
    match i, hu, ho with
    | 0, hu, ho => cases hu; cases ho; exact ⟨rq.str, rq.vec.ext x7, rq.ok⟩
    | _ + 1, hu, ho => simp at hu
  refine r_Short17 (r.ext x7) rowq hl (by simp) fun t h10 e10 ht => ?_
  have x10 := x7.trans e10
  cases t with
  | false => exact cnd_yes rfl (l_lives17 fun h' e => ⟨rfl, x10.trans e⟩)
  | true =>
    obtain ⟨hm, hq, hi⟩ := ht rfl
    have hq1 := hq q (by simp)
    have rqx : ObR h10 (kQ x) q := ⟨rq.str, rq.vec.ext x10, rq.ok, by omega, by omega⟩
    have ir : IRow h10.size h10 (kL x) l := (r.ext x10).short hi (by decide) (Nat.le_refl _)
    have bx10 := bx.ext (e7.trans e10)
    have hxp : h.size < h10.size := bx10.lt
    refine cnd_no rfl (ldA_blk (s := .int .i64) (x := kM x) bx10 rfl (m_New fun h15 e15 q15 => ?_))
    have bx15 := bx10.ext e15
    refine ldA_blk (s := .int .i64) (x := kM x) bx15 rfl (ldA_blk (s := .sl) (i := 1) (x := kL x) bx15 rfl (ldA_blk (s := .int .i64) (i := 2) (x := oTag (kQ x)) bx15 rfl (ldA_blk (s := .sl) (i := 3) (x := oVec (kQ x)) bx15 rfl (ldA_blk (s := .str) (i := 4) (x := oStr (kQ x)) bx15 rfl ?_))))
    refine r_All e15 ir rqx (by omega) fun sa h22 oa e22 => ?_
    have hpl := q15.lt
    have z22 := e22.size
    have aab := oa.above
    have alt := oa.lt
    have q22 : MQ h22 h10.size (kM x) 0 := Blk.ext q15 e22
    have on22 : Only h10.size h10 h22 := (e15.trans e22).only _
    have M := mtr_some h10.size (kM x)
    have bxAt : ∀ g, Only h10.size h22 g → Blk g h.size (kCells x) := fun g u => (bx15.ext e22).only u (by omega)
    have raAt : ∀ g, Only h10.size h22 g → RH g sa (srt (l.map (hitOf (od (kM x)) q))) := fun g u => isRow_only oa.row u fun _ a ha => by have := aab a ha; omega
    have fin : ∀ g, Only h10.size h22 g → Ext h g := fun g u => x10.trans ((e15.trans e22).only_new u (Nat.le_refl _))
    have aq : ObA h10.size h10 (kQ x) q := rqx.apart (Nat.le_refl _)
    have llen := r.len
    rw [Jn_eq]
    have j2 : ∀ g, Only h10.size h22 g → MQ g h10.size (kM x) (2 * (l.length : Int)) → J2_law17_ScanTells (fun b h' => b = true ∧ Ext h h') ⟨h.size, 0, none⟩ (some ⟨h10.size, 0, none⟩) sa () g := by
      intro g u qg
      have bg := bxAt g u
      have hne : h.size ∉ [h10.size] := by rw [List.mem_singleton]; omega
      unfold J2_law17_ScanTells
      refine ⟨[h10.size], hne, ldA_blk (s := .sl) (i := 1) (x := kL x) bg rfl ⟨hne, ldA_blk (s := .int .i64) (i := 2) (x := oTag (kQ x)) bg rfl (ldA_blk (s := .sl) (i := 3) (x := oVec (kQ x)) bg rfl (ldA_blk (s := .str) (i := 4) (x := oStr (kQ x)) bg rfl ⟨hne, ldA_blk (s := .int .i64) (i := 6) (x := kK x) bg rfl ?_⟩))⟩⟩
      refine s_Near M (c := 2 * (l.length : Int)) qg (by omega) (on22.trans u) ir aq (by omega) (by have := u.size; omega) hk fun s6 g6 r6 q6 u6 => ⟨Only.extS u6, hne, ldA_blk (s := .int .i64) (i := 6) (x := kK x) bg rfl ?_⟩
      have u26 := u.trans u6
      refine c_First (raAt g6 u26) (by rw [srt_len, List.length_map]; omega) fun s7 g7 o7 e7' => ?_
      refine c_hSame (r6.ext e7') o7.row (by have := (keep_len (kK x).toNat (l.map (hitOf (od (kM x)) q))).2; rw [List.length_map] at this; omega) (cnd_yes (decide_eq_true rfl) ?_)
      refine m_Calls (Blk.ext q6 e7') ⟨Only.extS (Only.refl _ _), hne, ldA_blk (s := .sl) (i := 1) (x := kL x) ((bxAt g6 u26).ext e7') rfl (let_to ?_)⟩
      refine cnd_yes (by rw [llen, wrap_i64 (by omega) (by omega), beq_iff_eq]; omega) (l_lives17 fun h' e => ⟨rfl, (fin g6 u26).trans (e7'.trans e)⟩)
    have j1 : ∀ g, Only h10.size h22 g → MQ g h10.size (kM x) (l.length : Int) → J1_law17_ScanTells (fun b h' => b = true ∧ Ext h h') ⟨h.size, 0, none⟩ (some ⟨h10.size, 0, none⟩) sa () g := by
      intro g u qg
      have bg := bxAt g u
      have hne : h.size ∉ [h10.size] := by rw [List.mem_singleton]; omega
      unfold J1_law17_ScanTells
      rw [Jn_eq]
      refine ⟨[h10.size], hne, ldA_blk (s := .sl) (i := 1) (x := kL x) bg rfl ⟨hne, ldA_blk (s := .int .i64) (i := 2) (x := oTag (kQ x)) bg rfl (ldA_blk (s := .sl) (i := 3) (x := oVec (kQ x)) bg rfl (ldA_blk (s := .str) (i := 4) (x := oStr (kQ x)) bg rfl ⟨hne, ldA_blk (s := .int .i64) (i := 5) (x := kR x) bg rfl ?_⟩))⟩⟩
      refine s_Range M (c := (l.length : Int)) qg (by omega) (on22.trans u) ir aq (by omega) (by have := u.size; omega) fun s6 g6 r6 q6 u6 _ => ⟨Only.extS u6, hne, ldA_blk (s := .int .i64) (i := 5) (x := kR x) bg rfl ?_⟩
      have u26 := u.trans u6
      refine c_Within (raAt g6 u26) (by rw [srt_len, List.length_map]; omega) fun s7 g7 o7 e7' => ?_
      rw [show l.filterMap (rngOf (fun most a b => (if od (kM x) a b ≤ most then od (kM x) a b else 0, decide (od (kM x) a b ≤ most))) (kR x) q) = _ from rng_od (kM x) (kR x) q l] at r6
      refine c_hSame (r6.ext e7') o7.row ?_ (cnd_no (by rw [srt_filter, decide_eq_true rfl]; rfl) ?_)
      · rw [srt_len]
        have := List.length_filter_le (fun x_1 => decide (hDi x_1 ≤ kR x)) (l.map (hitOf (od (kM x)) q))
        rw [List.length_map] at this
        omega
      refine m_Calls (Blk.ext q6 e7') ⟨Only.extS (Only.refl _ _), hne, ldA_blk (s := .sl) (i := 1) (x := kL x) ((bxAt g6 u26).ext e7') rfl (let_to ?_)⟩
      rw [llen, wrap_i64 (by omega) (by omega)]
      refine cnd_bne.2 ⟨fun hn => absurd (by omega) hn, fun _ => j2 g7 (u26.trans (e7'.only _)) ?_⟩
      have := Blk.ext q6 e7'
      rw [show 2 * (l.length : Int) = (l.length : Int) + l.length by omega]; exact this
    have bg := bxAt h22 (Only.refl _ _)
    have hne : h.size ∉ [h10.size] := by rw [List.mem_singleton]; omega
    refine ⟨[h10.size], hne, ldA_blk (s := .sl) (i := 1) (x := kL x) bg rfl ⟨hne, ldA_blk (s := .int .i64) (i := 2) (x := oTag (kQ x)) bg rfl (ldA_blk (s := .sl) (i := 3) (x := oVec (kQ x)) bg rfl (ldA_blk (s := .str) (i := 4) (x := oStr (kQ x)) bg rfl ?_))⟩⟩
    refine s_All M (c := 0) q22 (by decide) on22 ir aq (by omega) (by omega) fun s6 g6 r6 q6 u6 _ => ?_
    refine c_hSame r6 (raAt g6 u6) (by rw [srt_len, List.length_map]; omega) (cnd_no (by rw [decide_eq_true rfl]; rfl) ?_)
    rw [Int.zero_add] at q6
    refine m_Calls q6 ⟨Only.extS (Only.refl _ _), hne, ldA_blk (s := .sl) (i := 1) (x := kL x) (bxAt g6 u6) rfl ?_⟩
    rw [llen]
    exact cnd_bne.2 ⟨fun hn => absurd rfl hn, fun _ => j1 g6 u6 q6⟩
theorem cnt_all : ∀ n : Fin 31, Int.tdiv ((n.val : Int) * ((n.val : Int) - 1)) 2 = cntP n.val n.val := by decide +kernel
theorem scanPairs_ok {x : StA KT} {l : List It} {h : Hp} (r : XIRow h (kL x) l) (hl : l.length ≤ 140737488355328) : C_law17_ScanPairs (kM x) (kL x) (oTag (kQ x)) (oVec (kQ x)) (oStr (kQ x)) (kR x) (kK x) h fun b h' => b = true ∧ Ext h h' := by
  refine F_law17_ScanPairs_ok _ _ _ _ _ _ _ _ _ (push_to fun h1 b1 e1 z1 => let_to ?_)
  have bx : Blk h1 h.size (kCells x) := b1
  refine ldA_blk (s := .sl) (i := 1) (x := kL x) bx rfl ?_
  refine r_Short17 (r.ext e1) (xrow_nil h1) hl (by decide) fun t h10 e10 ht => ?_
  have x10 := e1.trans e10
  cases t with
  | false => exact cnd_yes rfl (l_lives17 fun h' e => ⟨rfl, x10.trans e⟩)
  | true =>
    obtain ⟨hm, _, hi⟩ := ht rfl
    have ir : IRow h10.size h10 (kL x) l := (r.ext x10).short hi (by decide) (Nat.le_refl _)
    have bx10 := bx.ext e10
    have hxp : h.size < h10.size := bx10.lt
    have llen := r.len
    refine cnd_no rfl (ldA_blk (s := .int .i64) (x := kM x) bx10 rfl (m_New fun h15 e15 q15 => ?_))
    have bx15 := bx10.ext e15
    have hpl := q15.lt
    refine ldA_blk (s := .sl) (i := 1) (x := kL x) bx15 rfl (ldA_blk (s := .int .i64) (i := 5) (x := kR x) bx15 rfl ?_)
    refine s_Pairs (mtr_some h10.size (kM x)) (rr := kR x) q15 (e15.only _) ir (by omega) hpl fun s g rs qg u hs => ?_
    have bg := bx15.only u (by omega)
    have x15g : Ext h10 g := e15.only_new u (Nat.le_refl _)
    have xg := x10.trans x15g
    have slen := rs.len
    have hol := outerP_len (odU (kM x)) (kR x) l l.length
    have hmul : l.length * l.length ≤ 30 * 30 := Nat.mul_le_mul (by omega) (by omega)
    rw [Jn_eq]
    refine Lp.inv (fun st => Ext g st.2 ∧ ∃ i : Nat, st.1.2.1 = (i : Int) ∧ i ≤ l.length ∧ st.1.1 = ((outerP (odU (kM x)) (kR x) l i).length : Int)) (fun st => l.length - st.1.2.1.toNat) ?_ ⟨Ext.refl _, 0, rfl, by omega, rfl⟩
    rintro ⟨⟨n', i', ⟨⟩⟩, w⟩ R ⟨xw, i, rfl, hi2, hn⟩ hR
    simp only at xw hn
    subst hn
    have bw := bg.ext xw
    unfold L1_law17_ScanPairs
    dsimp only
    refine ldA_blk (s := .sl) (i := 1) (x := kL x) bw rfl (cnd_dec.2 ⟨fun hlt => let_to ?_, fun hge => ?_⟩)
    · have hwi : IntKind.wrap .i64 ((i : Int) + 1) = ((i + 1 : Nat) : Int) := by rw [wrap_i64 (by omega) (by omega)]; omega
      rw [hwi]
      refine Lp.inv (fun st => Ext g st.2 ∧ ∃ k : Nat, st.1.2.1 = (k : Int) ∧ i + 1 ≤ k ∧ k ≤ l.length ∧ st.1.1 = ((outerP (odU (kM x)) (kR x) l i ++ innerP (odU (kM x)) (kR x) l i k).length : Int)) (fun st => l.length - st.1.2.1.toNat) ?_ ⟨xw, i + 1, rfl, Nat.le_refl _, by omega, by rw [innerP_nil, List.append_nil]⟩
      rintro ⟨⟨n', k', ⟨⟩⟩, v⟩ R2 ⟨xv, k, rfl, hk1, hk2, hn⟩ hR2
      simp only at xv hn
      subst hn
      have bv := bg.ext xv
      have xv10 := x15g.trans xv
      unfold L2_law17_ScanPairs
      dsimp only
      refine ldA_blk (s := .sl) (i := 1) (x := kL x) bv rfl (cnd_dec.2 ⟨fun hkl => ?_, fun hkl => let_to ?_⟩)
      · have hx : l[i]? = some (l[i]'(by omega)) := List.getElem?_eq_getElem (by omega)
        have hy : l[k]? = some (l[k]'(by omega)) := List.getElem?_eq_getElem (by omega)
        generalize l[i]'(by omega) = xi at hx
        generalize l[k]'(by omega) = yk at hy
        have hpre := F_pre (odU (kM x)) (kR x) l (i := i) (k := k + 1) (by omega) (by omega) (by omega)
        have hple := hpre.length_le
        have hsuc := innerP_succ (odU (kM x)) (kR x) l hk1
        have hF0 := (F_pre (odU (kM x)) (kR x) l (i := i) (k := k) (by omega) (by omega) (by omega)).length_le
        refine ldA_blk (s := .int .i64) (x := kM x) bv rfl (ldA_blk (s := .sl) (i := 1) (x := kL x) bv rfl ?_)
        refine ld_it ir (xv10.only _) (i := (i : Int)) (by omega) (by rw [Int.toNat_natCast]; exact hx) fun a aa ca hida ra => ?_
        rw [add_add', add_add']
        refine ldA_row (s := .int .i64) (j := 1) (x := oTag (iOb aa)) ca rfl (ldA_row (s := .sl) (j := 2) (x := oVec (iOb aa)) ca rfl (ldA_row (s := .str) (j := 3) (x := oStr (iOb aa)) ca rfl ?_))
        refine ldA_blk (s := .sl) (i := 1) (x := kL x) bv rfl ?_
        refine ld_it ir (xv10.only _) (i := (k : Int)) (by omega) (by rw [Int.toNat_natCast]; exact hy) fun b bb cb hidb rb => ?_
        rw [add_add', add_add']
        refine ldA_row (s := .int .i64) (j := 1) (x := oTag (iOb bb)) cb rfl (ldA_row (s := .sl) (j := 2) (x := oVec (iOb bb)) cb rfl (ldA_row (s := .str) (j := 3) (x := oStr (iOb bb)) cb rfl ?_))
        refine c_rDist (ra.ob.ext xv10) (rb.ob.ext xv10) fun v2 ev => ?_
        have xv2 := xv.trans ev
        refine ldA_blk (s := .int .i64) (i := 5) (x := kR x) (bv.ext ev) rfl (cnd_dec.2 ⟨fun hfar => let_to ?_, fun hnear => ?_⟩)
        · have hp : prOf (odU (kM x)) (kR x) l i k = none := by unfold prOf; rw [hx, hy]; simp only; rw [if_neg (by simp; omega)]
          rw [wrap_i64 (by omega) (by omega)]
          refine hR2 _ ⟨xv2, k + 1, by simp, by omega, by omega, ?_⟩ (by simp only; omega)
          rw [hsuc, hp]; simp
        · have hp : prOf (odU (kM x)) (kR x) l i k = some ((i : Int), (k : Int), od (kM x) xi.2 yk.2, ()) := by unfold prOf; rw [hx, hy]; simp only; rw [if_pos (by simp; omega), if_pos (by omega)]
          rw [hp] at hsuc
          rw [hsuc, ← List.append_assoc] at hpre hple
          have hlen1 : (outerP (odU (kM x)) (kR x) l i ++ innerP (odU (kM x)) (kR x) l i k).length < (outerP (odU (kM x)) (kR x) l l.length).length := by
            rw [List.length_append] at hple
            simp only [Option.toList, List.length_cons, List.length_nil] at hple
            omega
          have hat : (outerP (odU (kM x)) (kR x) l l.length)[(outerP (odU (kM x)) (kR x) l i ++ innerP (odU (kM x)) (kR x) l i k).length]? = some ((i : Int), (k : Int), od (kM x) xi.2 yk.2, ()) := by
            obtain ⟨t, ht⟩ := hpre
            rw [← ht, List.getElem?_append_left (by rw [List.length_append (bs := Option.toList _)]; simp [Option.toList]), List.getElem?_append_right (Nat.le_refl _), Nat.sub_self]; rfl
          have rs2 := rs.ext xv2
          have rd : ∀ {K : Addr → Prop}, (∀ a, cellsAt v2 a (vsA TT ((i : Int), (k : Int), od (kM x) xi.2 yk.2, ())) → K a) → idxS s.a s.len ((outerP (odU (kM x)) (kR x) l i ++ innerP (odU (kM x)) (kR x) l i k).length : Int) 3 K := fun hk' => ld_row rs2 (by omega) (by rw [Int.toNat_natCast]; exact hat) fun a ha ca => hk' _ ca
          refine cnd_no (by rw [decide_eq_false_iff_not, slen]; exact fun hge => by have : (outerP (fun most a b => (if od (kM x) a b ≤ most then od (kM x) a b else 0, decide (od (kM x) a b ≤ most))) (kR x) l l.length).length = (outerP (odU (kM x)) (kR x) l l.length).length := rfl; omega) ?_
          refine rd fun a1 ca1 => ldA_row0 (s := .int .i64) (x := (i : Int)) ca1 rfl (cnd_bne.2 ⟨fun hn => absurd rfl hn, fun _ => ?_⟩)
          refine rd fun a1 ca1 => ldA_row (s := .int .i64) (j := 1) (x := (k : Int)) ca1 rfl (cnd_bne.2 ⟨fun hn => absurd rfl hn, fun _ => ?_⟩)
          refine rd fun a1 ca1 => ldA_row (s := .int .i64) (j := 2) (x := od (kM x) xi.2 yk.2) ca1 rfl (cnd_bne.2 ⟨fun hn => absurd rfl hn, fun _ => let_to (let_to ?_)⟩)
          rw [wrap_i64 (x := (k : Int) + 1) (by omega) (by omega), wrap_i64 (by omega) (by omega)]
          refine hR2 _ ⟨xv2, k + 1, by simp, by omega, by omega, ?_⟩ (by simp only; omega)
          rw [hsuc, ← List.append_assoc, List.length_append (bs := Option.toList _)]; simp [Option.toList]
      · obtain rfl : k = l.length := by omega
        rw [hwi]
        exact hR _ ⟨xv, i + 1, rfl, by omega, rfl⟩ (by simp only; omega)
    · obtain rfl : i = l.length := by omega
      unfold J1_law17_ScanPairs
      dsimp only
      refine cnd_yes (by rw [slen, beq_iff_eq]) (m_Calls (Blk.ext qg xw) ⟨Ext.refl _, ldA_blk (s := .sl) (i := 1) (x := kL x) bw rfl (ldA_blk (s := .sl) (i := 1) (x := kL x) bw rfl (let_to (let_to ⟨by decide, let_to ?_⟩)))⟩)
      have hc := cnt_all ⟨l.length, by omega⟩
      simp only at hc
      have hcb := cntP_bd l.length l.length
      have hmul2 : (l.length : Int) * ((l.length : Int) - 1) ≤ 30 * 30 ∧ -100 ≤ (l.length : Int) * ((l.length : Int) - 1) := by
        have e : (l.length : Int) * ((l.length : Int) - 1) = ((l.length * l.length : Nat) : Int) - l.length := by rw [Int.mul_sub]; simp
        rw [e]; omega
      rw [llen, wrap_i64 (x := (l.length : Int) - 1) (by omega) (by omega), wrap_i64 (x := (l.length : Int) * ((l.length : Int) - 1)) (by omega) (by omega), hc, wrap_i64 (by omega) (by omega)]
      exact cnd_yes (beq_self_eq_true _) (l_lives17 fun h' e => ⟨rfl, xg.trans (xw.trans e)⟩)
theorem outer_nil (r : Int) (l : List It) : ∀ i, outerP (fun _ _ _ => (0, false)) r l i = []
  | 0 => rfl
  | i + 1 => by
    unfold outerP
    rw [outer_nil r l i, List.nil_append]
    unfold innerP
    rw [List.filterMap_eq_nil_iff]
    intro j _
    unfold prOf
    split <;> rfl
theorem scanNone_ok {x : StA KT} {l : List It} {h : Hp} (r : XIRow h (kL x) l) (hl : l.length ≤ 140737488355328) : C_law17_ScanNone (kM x) (kL x) (oTag (kQ x)) (oVec (kQ x)) (oStr (kQ x)) (kR x) (kK x) h fun b h' => b = true ∧ Ext h h' := by
  refine F_law17_ScanNone_ok _ _ _ _ _ _ _ _ _ (push_to fun h1 b1 e1 z1 => let_to ?_)
  have bx : Blk h1 h.size (kCells x) := b1
  refine ldA_blk (s := .sl) (i := 1) (x := kL x) bx rfl ?_
  refine r_Short17 (r.ext e1) (xrow_nil h1) hl (by decide) fun t h10 e10 ht => ?_
  have x10 := e1.trans e10
  cases t with
  | false => exact cnd_yes rfl (l_lives17 fun h' e => ⟨rfl, x10.trans e⟩)
  | true =>
    obtain ⟨hm, _, hi⟩ := ht rfl
    have ir : IRow h.size h (kL x) l := r.short hi (by decide) (Nat.le_refl _)
    have bx10 := bx.ext e10
    have hxp : h.size < h10.size := bx10.lt
    have llen := r.len
    have M := mtr_nil h.size (kCells x)
    refine cnd_no rfl (ldA_blk (s := .sl) (i := 1) (x := kL x) bx10 rfl (ldA_blk (s := .int .i64) (i := 2) (x := oTag (kQ x)) bx10 rfl (ldA_blk (s := .sl) (i := 3) (x := oVec (kQ x)) bx10 rfl (ldA_blk (s := .str) (i := 4) (x := oStr (kQ x)) bx10 rfl ?_))))
    refine s_All M (c := 0) (q := ([], ByteArray.mk #[])) bx10 (by decide) (x10.only _) ir trivial (by omega) hxp fun s g rs bg u _ => ?_
    have slen := rs.len
    rw [srt_len, List.length_map] at slen
    have fin : ∀ g', Only h.size h10 g' → Ext h g' := fun g' u' => x10.only_new u' (Nat.le_refl _)
    have hz : ∀ y ∈ srt (l.map (hitOf (fun _ _ => 0) (([], ByteArray.mk #[]) : Ob))), hDi y = 0 := fun y hy => by
      have := (srt_perm _).subset hy
      obtain ⟨z, _, rfl⟩ := List.mem_map.1 this
      rfl
    rw [Jn_eq]
    refine Lp.inv (fun st => st.2 = g ∧ ∃ k : Nat, st.1.1 = (k : Int) ∧ k ≤ l.length) (fun st => l.length - st.1.1.toNat) ?_ ⟨rfl, 0, rfl, by omega⟩
    rintro ⟨⟨k', ⟨⟩⟩, g'⟩ R ⟨rfl, k, rfl, hk⟩ hR
    unfold L1_law17_ScanNone
    dsimp only
    refine cnd_dec.2 ⟨fun hlt => ?_, fun hge => ?_⟩
    · have hkl : k < (srt (l.map (hitOf (fun _ _ => 0) (([], ByteArray.mk #[]) : Ob)))).length := by rw [srt_len, List.length_map]; omega
      have hy : (srt (l.map (hitOf (fun _ _ => 0) (([], ByteArray.mk #[]) : Ob))))[k]? = some _ := List.getElem?_eq_getElem hkl
      have hd := hz _ (List.mem_of_getElem? hy)
      refine ld_row rs (i := (k : Int)) (by omega) (by rw [Int.toNat_natCast]; exact hy) fun a ha ca => ?_
      refine ldA_row (s := .int .i64) (j := 1) (x := hDi _) ca rfl (cnd_bne.2 ⟨fun hn => absurd hd hn, fun _ => let_to ?_⟩)
      rw [wrap_i64 (by omega) (by omega)]
      exact hR _ ⟨rfl, k + 1, by simp, by omega⟩ (by simp only; omega)
    · unfold J1_law17_ScanNone
      refine ldA_blk (s := .sl) (i := 1) (x := kL x) bg rfl (cnd_yes (by rw [slen, llen, beq_iff_eq]) ?_)
      refine ldA_blk (s := .sl) (i := 1) (x := kL x) bg rfl (ldA_blk (s := .int .i64) (i := 2) (x := oTag (kQ x)) bg rfl (ldA_blk (s := .sl) (i := 3) (x := oVec (kQ x)) bg rfl (ldA_blk (s := .str) (i := 4) (x := oStr (kQ x)) bg rfl (ldA_blk (s := .int .i64) (i := 5) (x := kR x) bg rfl ?_))))
      have hgs := bg.lt
      refine s_Range M (c := 0) (rr := kR x) (q := ([], ByteArray.mk #[])) bg (by decide) ((x10.only _).trans u) ir trivial (by omega) hgs fun s2 g2 r2 b2 u2 _ => ?_
      have hf : l.filterMap (rngOf (fun _ _ _ => (0, false)) (kR x) (([], ByteArray.mk #[]) : Ob)) = [] := by
        rw [List.filterMap_eq_nil_iff]; intro y _; rfl
      rw [hf] at r2
      have l2 := r2.len
      refine cnd_yes (by rw [l2]; rfl) (ldA_blk (s := .sl) (i := 1) (x := kL x) b2 rfl (ldA_blk (s := .int .i64) (i := 5) (x := kR x) b2 rfl ?_))
      refine s_Pairs M (rr := kR x) b2 (((x10.only _).trans u).trans u2) ir (by omega) b2.lt fun s3 g3 r3 b3 u3 _ => ?_
      rw [outer_nil] at r3
      have l3 := r3.len
      exact cnd_yes (by rw [l3]; rfl) (l_lives17 fun h' e => ⟨rfl, (fin g3 ((u.trans u2).trans u3)).trans e⟩)
end Go.Proofs.YtlbpmophbmbfiaaF
