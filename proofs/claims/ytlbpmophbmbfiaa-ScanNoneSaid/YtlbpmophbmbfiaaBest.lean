/- Chapter 12: the functions of best, and of the document's best. No condition. -/
import Derived.Test.YtlbpmophbmbfiaaHeapHit
import Derived.Test.YtlbpmophbmbfiaaHitsSame
namespace Go.Proofs.YtlbpmophbmbfiaaF
open Go Go.Proofs.YtlbpmophbmbfiaaK
set_option linter.unusedSimpArgs false
set_option linter.unusedVariables false

abbrev leH (x y : StA HT) : Prop := hlt x y = false
theorem totH : Tot leH := ⟨fun x y => by simp only [hlt_no]; omega, fun x y z h1 h2 => by simp only [hlt_no] at *; omega⟩
abbrev lstc (x y : StA HT) : Int := hcmp y x
theorem lst_le (x y : StA HT) : lstc x y ≤ 0 ↔ leH x y := by
  simp only [hlt_no]; unfold lstc hcmp cmpI
  (repeat' split) <;> omega
theorem lst_lt (x y : StA HT) : lstc x y < 0 ↔ ¬ leH y x := by
  simp only [hlt_no]; unfold lstc hcmp cmpI
  (repeat' split) <;> omega
/-- The function that orders what is kept: the last one first. -/
def LastOk (g : FuncId) : Prop := entered Try.prog g = true ∧ ∀ (x y : StA HT) (h : Hp) (K : Int → Hp → Prop), (∀ h', Ext h h' → K (lstc x y) h') → CallT Try.prog g [.agg (vsA HT x).toArray, .agg (vsA HT y).toArray] [.at (.int .i64)] h fun s h' => K s.1 h'
theorem LastOk.ord {g : FuncId} (o : LastOk g) : OrdV Try.prog (.func (.func g) #[] #[]) hHArg lstc := ⟨rfl, fun x y h K hK => callV_func o.1 (o.2 x y h K hK)⟩
theorem c_last {x y : StA HT} {h : Hp} {K : Int → Hp → Prop} (hK : ∀ h', Ext h h' → K (lstc x y) h') : C_best_New_1 (hId x) (hDi x) (hId y) (hDi y) h K := by
  refine F_best_New_1_ok _ _ _ _ _ _ (push_to fun h1 b1 e1 z1 => let_to (push_to fun h2 b2 e2 z2 => let_to ?_))
  have c1 := b1.ext e2
  refine ldA_blk (s := .int .u64) (x := hId y) b2 rfl (ldA_blk (s := .int .i64) (i := 1) (x := hDi y) b2 rfl (ldA_blk (s := .int .u64) (x := hId x) c1 rfl (ldA_blk (s := .int .i64) (i := 1) (x := hDi x) c1 rfl ?_)))
  exact c_hCmp (x := y) (y := x) fun h3 e3 => hK h3 (e1.trans (e2.trans e3))

/-! The plain law: what is kept. -/
def kp (k : Nat) (m : List (StA HT)) (x : StA HT) : List (StA HT) := (ins hlt x m).take k
def keep (k : Nat) (l : List (StA HT)) : List (StA HT) := (srt l).take k
theorem ins_take (x : StA HT) : ∀ (l : List (StA HT)) (k : Nat), (ins hlt x (l.take k)).take k = (ins hlt x l).take k
  | [], k => by simp
  | y :: t, 0 => by simp
  | y :: t, k + 1 => by
    rw [List.take_succ_cons]
    unfold ins
    split
    · rw [List.take_succ_cons, List.take_succ_cons]
      congr 1
      cases k with
      | zero => rfl
      | succ k => rw [List.take_succ_cons, List.take_succ_cons, List.take_take]; congr 2; omega
    · rw [List.take_succ_cons, List.take_succ_cons, ins_take x t k]
theorem srt_snoc (l : List (StA HT)) (x : StA HT) : srt (l ++ [x]) = ins hlt x (srt l) :=
  (srt_eq ((ins_perm hlt x _).trans (((srt_perm l).cons x).trans (List.perm_append_singleton x l).symm)) (ins_srt hltOk x (srt_srt l))).symm
theorem keep_snoc (k : Nat) (l : List (StA HT)) (x : StA HT) : keep k (l ++ [x]) = kp k (keep k l) x := by
  unfold keep kp
  rw [srt_snoc, ins_take]
theorem keep_srt (k : Nat) (l : List (StA HT)) : Srt hlt (keep k l) := (srt_srt l).sublist (List.take_sublist _ _)
theorem keep_len (k : Nat) (l : List (StA HT)) : (keep k l).length ≤ k ∧ (keep k l).length ≤ l.length := by
  unfold keep
  rw [List.length_take, srt_len]; omega
theorem keep_cong {l m : List (StA HT)} (p : m.Perm l) (k : Nat) : keep k m = keep k l := by unfold keep; rw [srt_cong p]
theorem ins_end {x : StA HT} : ∀ {m : List (StA HT)}, (∀ y ∈ m, hlt x y = false) → ins hlt x m = m ++ [x]
  | [], _ => rfl
  | y :: t, h => by
    unfold ins
    rw [if_neg (by rw [h y (by simp)]; simp), ins_end fun z hz => h z (by simp [hz])]; rfl
theorem last_max {m : List (StA HT)} (hs : Srt hlt m) {z : StA HT} (hz : m[m.length - 1]? = some z) : ∀ y ∈ m, hlt z y = false := by
  intro y hy
  obtain ⟨j, hj⟩ := List.getElem?_of_mem hy
  have hjl := (List.getElem?_eq_some_iff.1 hj).1
  by_cases e : j = m.length - 1
  · subst e; rw [hz] at hj; cases hj; rw [hlt_no]; omega
  · have h1 := (List.pairwise_iff_getElem.1 hs) j (m.length - 1) hjl (by omega) (by omega)
    rw [(List.getElem?_eq_some_iff.1 hj).2, (List.getElem?_eq_some_iff.1 hz).2] at h1
    exact h1
theorem top_last {l m : List (StA HT)} (hp : HeapL leH l) (pm : m.Perm l) (hs : Srt hlt m) {x : StA HT} (hx : l[0]? = some x) : m[m.length - 1]? = some x := by
  have hpos : 0 < m.length := by rw [pm.length_eq]; exact (List.getElem?_eq_some_iff.1 hx).1
  have hz : m[m.length - 1]? = some m[m.length - 1] := List.getElem?_eq_getElem (by omega)
  have hxm : x ∈ m := pm.symm.subset (List.mem_of_getElem? hx)
  have h1 := last_max hs hz x hxm
  have hzl : m[m.length - 1] ∈ l := pm.subset (List.getElem_mem _)
  obtain ⟨j, hj⟩ := List.getElem?_of_mem hzl
  have h2 : hlt x m[m.length - 1] = false := HeapL.head totH hp hx j _ hj
  rw [hz, hltOk.eq _ _ h1 h2]
/-- A full row, and one that is ahead of its last: the last one goes. -/
theorem kp_full {m l1 : List (StA HT)} {x z : StA HT} (hs : Srt hlt m) (hz : m[m.length - 1]? = some z) (hlt' : hlt x z = true) (pm : m.Perm (z :: l1)) : (kp m.length m x).Perm (x :: l1) ∧ kp m.length m x ≠ m := by
  have hlen : (ins hlt x m).length = m.length + 1 := (ins_perm hlt x m).length_eq
  have hl : (ins hlt x m)[m.length]? = some ((ins hlt x m)[m.length]'(by omega)) := List.getElem?_eq_getElem (by omega)
  generalize hw : (ins hlt x m)[m.length]'(by omega) = w at hl
  have hsp : kp m.length m x ++ [w] = ins hlt x m := by
    unfold kp
    have := List.take_add_one (l := ins hlt x m) (i := m.length)
    rw [hl, ← hlen, List.take_length] at this
    exact this.symm
  have hmx := last_max (ins_srt hltOk x hs) (z := w) (by rw [hlen]; exact hl)
  have hzm : z ∈ m := List.mem_of_getElem? hz
  have hwz : w = z := by
    have h1 : hlt w z = false := hmx z ((ins_perm hlt x m).symm.subset (by simp [hzm]))
    have hwm : w ∈ x :: m := (ins_perm hlt x m).subset (List.mem_of_getElem? hl)
    rcases List.mem_cons.1 hwm with e | hwm
    · subst e; rw [hlt'] at h1; cases h1
    · exact hltOk.eq _ _ h1 (last_max hs hz w hwm)
  subst hwz
  have p1 : (w :: kp m.length m x).Perm (x :: w :: l1) := ((List.perm_append_singleton w _).symm.trans (hsp ▸ ins_perm hlt x m)).trans (pm.cons x)
  have p2 : (kp m.length m x).Perm (x :: l1) := List.Perm.cons_inv (p1.trans (List.Perm.swap _ _ _))
  refine ⟨p2, fun e => ?_⟩
  have hne : x ≠ w := fun e => by subst e; have := hltOk.asym _ _ hlt'; rw [hlt'] at this; cases this
  have p2' := p2
  rw [e] at p2'
  have p3 : (x :: l1).Perm (w :: l1) := p2'.symm.trans pm
  have hc := p3.count_eq w
  rw [List.count_cons_self, List.count_cons_of_ne hne] at hc
  omega

/-! Best in memory. -/
structure BQ (h : Hp) (b p : Nat) (g : FuncId) (s : Sl) (l : List (StA HT)) (k : Nat) : Prop where
  bb : Blk h b #[.int .i64 k, .pointer (some ⟨p, 0, none⟩)]
  q : HQ (vsA HT) 2 16 h p (.func (.func g) #[] #[]) s l
  hp : HeapL leH l
  ord : LastOk g
  bp : b ≠ p
  bs : ∀ a, s.a = some a → b ≠ a.block
theorem BQ.ext {h h' : Hp} {b p : Nat} {g : FuncId} {s : Sl} {l : List (StA HT)} {k : Nat} (q : BQ h b p g s l k) (e : Ext h h') : BQ h' b p g s l k := ⟨q.bb.ext e, q.q.ext e, q.hp, q.ord, q.bp, q.bs⟩
/-- What a step on the best at p turns. -/
structure BS (p : Nat) (s : Sl) (h : Hp) (s' : Sl) (h' : Hp) : Prop where
  o : OnlyP p s h h'
  n : s'.a = s.a ∨ ∃ b, s'.a = some ⟨b, 0, none⟩ ∧ h.size ≤ b
theorem b_New {k : Int} {h : Hp} {K : Option Addr → Hp → Prop} (hk : -9223372036854775808 ≤ k ∧ k ≤ 9223372036854775807) (hK : ∀ b g h', Ext h h' → BQ h' b h.size g ⟨none, 0, 0⟩ [] k.toNat → h.size < b → K (some ⟨b, 0, none⟩) h') : C_best_New k h K := by
  refine F_best_New_ok _ _ _ (let_to ?_)
  rw [show (if 0 > k then 0 else k) = ((k.toNat : Nat) : Int) by split <;> omega]
  refine hH_New rfl fun h1 e1 q1 => push_to fun h2 b2 e2 z2 => let_to ?_
  have hlt := q1.b.lt
  exact hK h1.size _ h2 (e1.trans e2) ⟨b2, q1.ext e2, fun j x y _ _ h => (by cases h), ⟨by kernel_rfl, fun x y h K hk => c_last (x := x) (y := y) hk⟩, by omega, fun a ha => by cases ha⟩ hlt
theorem b_hLen {h : Hp} {b p : Nat} {g : FuncId} {s : Sl} {l : List (StA HT)} {k : Nat} {K : Int → Hp → Prop} (q : BQ h b p g s l k) (hK : K l.length h) : C_heap_Heap_api_Hit_Len (some ⟨p, 0, none⟩) h K := by
  refine F_heap_Heap_api_Hit_Len_ok _ _ _ (ldA_blk (s := .sl) (i := 1) (x := s) q.q.b rfl ?_)
  have := q.q.o.row.len
  refine at_val hK ?_
  omega
theorem b_Full {h : Hp} {b p : Nat} {g : FuncId} {s : Sl} {l : List (StA HT)} {k : Nat} {K : Bool → Hp → Prop} (q : BQ h b p g s l k) (hK : K (decide (k ≤ l.length)) h) : C_best_Best_Full (some ⟨b, 0, none⟩) h K := by
  refine F_best_Best_Full_ok _ _ _ (ldA_blk (s := .ptr) (i := 1) (x := some ⟨p, 0, none⟩) q.bb rfl (b_hLen q ⟨Ext.refl _, ldA_blk (s := .int .i64) (x := (k : Int)) q.bb rfl ?_⟩))
  refine at_val hK ?_
  by_cases hle : k ≤ l.length
  · rw [decide_eq_true hle, decide_eq_true (by omega)]
  · rw [decide_eq_false hle, decide_eq_false (by omega)]
theorem b_Add {h : Hp} {b p : Nat} {g : FuncId} {s : Sl} {l m : List (StA HT)} {k : Nat} {x : StA HT} {K : Bool → Hp → Prop} (q : BQ h b p g s l k) (pm : m.Perm l) (hs : Srt hlt m) (hmk : m.length ≤ k) (hb : (l.length + 1) * 16 ≤ 140737488355328)
    (hK : ∀ s' l' h', BQ h' b p g s' l' k → l'.Perm (kp k m x) → BS p s h s' h' → K (decide (kp k m x ≠ m)) h') : C_best_Best_Add (some ⟨b, 0, none⟩) (hId x) (hDi x) h K := by
  have hml := pm.length_eq
  have hplt := q.q.b.lt
  have hblt := q.bb.lt
  have slt := q.q.o.lt
  refine F_best_Best_Add_ok _ _ _ _ _ (push_to fun h1 b1 e1 z1 => let_to ?_)
  rw [Jn_eq]
  have q1 := q.ext e1
  refine cnd_no rfl (ldA_blk (s := .int .i64) (x := (k : Int)) q1.bb rfl (cnd_beq.2 ⟨fun hz => ?_, fun hnz => ?_⟩))
  · have hk0 : k = 0 := by omega
    subst hk0
    have hm : m = [] := List.length_eq_zero_iff.1 (by omega)
    have e : kp 0 m x = m := by unfold kp; rw [hm]; rfl
    have := hK s l h1 q1 (by rw [e]; exact pm.symm) ⟨e1.onlyP p s, .inl rfl⟩
    rw [e] at this
    simpa using this
  · unfold J1_best_Best_Add
    rw [Jn_eq]
    -- the push
    have push : ∀ (s2 : Sl) (l2 : List (StA HT)) (h2 : Hp), BQ h2 b p g s2 l2 k → Blk h2 h.size #[.int .u64 (hId x), .int .i64 (hDi x)] → BS p s h s2 h2 → (l2.length + 1) * 16 ≤ 140737488355328 → (x :: l2).Perm (kp k m x) → kp k m x ≠ m → J2_best_Best_Add (some ⟨b, 0, none⟩) K ⟨h.size, 0, none⟩ () h2 := by
      intro s2 l2 h2 q2 c2 bs2 hb2 hp2 hne
      unfold J2_best_Best_Add
      refine ldA_blk (s := .ptr) (i := 1) (x := some ⟨p, 0, none⟩) q2.bb rfl (ldA_blk (s := .int .u64) (x := hId x) c2 rfl (ldA_blk (s := .int .i64) (i := 1) (x := hDi x) c2 rfl ?_))
      refine hH_Push (x := x) q2.ord.ord lst_le totH q2.q q2.hp hb2 fun s3 l3 h3 q3 p3 m3 u3 n3 => ?_
      have hb2lt := q2.bb.lt
      have bb3 : Blk h3 b _ := q2.bb.onlyP u3 q2.bp q2.bs
      have := hK s3 l3 h3 ⟨bb3, q3, p3, q2.ord, q2.bp, fun a ha => by
        rcases n3 with e | ⟨c, e, hc⟩
        · exact q2.bs a (by rw [← e]; exact ha)
        · rw [e] at ha; cases ha; simp only; omega⟩ (m3.trans hp2) ⟨bs2.o.transN u3 (Nat.le_refl _) bs2.n, ?_⟩
      · rw [decide_eq_true hne] at this; exact this
      · rcases n3 with e | ⟨c, e, hc⟩
        · rcases bs2.n with e2 | ⟨c, e2, hc⟩
          · exact .inl (e.trans e2)
          · exact .inr ⟨c, e.trans e2, hc⟩
        · exact .inr ⟨c, e, by have := bs2.o.1; omega⟩
    refine ldA_blk (s := .ptr) (i := 1) (x := some ⟨p, 0, none⟩) q1.bb rfl ?_
    refine hH_Top q1.q (fun hz h2 e2 => ?_) fun z hz h2 e2 => ?_
    · refine push_to fun h3 b3 e3 z3 => let_to ?_
      refine stores_blk (vs := [.int .u64 0, .int .i64 0]) b3 rfl fun h4 b4 u4 _ z4 => ?_
      have y4 : Ext h1 h4 := (e2.trans e3).only_new u4 e2.size
      have hm : m = [] := List.length_eq_zero_iff.1 (by rw [hml, hz]; rfl)
      have e : kp k m x = [x] := by
        unfold kp
        rw [hm]
        show [x].take k = [x]
        rw [List.take_of_length_le (by simp; omega)]
      refine cnd_no rfl ?_
      unfold J3_best_Best_Add
      refine cnd_no rfl (push s l h4 (q1.ext y4) (b1.ext y4) ⟨(e1.trans y4).onlyP p s, .inl rfl⟩ hb ?_ ?_)
      · rw [e, hz]
      · rw [e, hm]; simp
    · refine push_to fun h3 b3 e3 z3 => let_to ?_
      refine stores_blk (vs := [.int .u64 (hId z), .int .i64 (hDi z)]) b3 rfl fun h4 b4 u4 _ z4 => ?_
      simp only [List.take_zero, List.nil_append] at b4
      have y4 : Ext h1 h4 := (e2.trans e3).only_new u4 e2.size
      have q4 := q1.ext y4
      have c4 := b1.ext y4
      have hzl := top_last q.hp pm hs hz
      refine cnd_yes rfl (b_Full q4 ?_)
      unfold J3_best_Best_Add
      dsimp only
      refine cnd_dec.2 ⟨fun hfull => ?_, fun hnf => ?_⟩
      · have hmeq : m.length = k := by omega
        refine ldA_blk (s := .int .u64) (x := hId x) c4 rfl (ldA_blk (s := .int .i64) (i := 1) (x := hDi x) c4 rfl (ldA_blk (s := .int .u64) (x := hId z) b4 rfl (ldA_blk (s := .int .i64) (i := 1) (x := hDi z) b4 rfl ?_)))
        refine c_hCmp (x := x) (y := z) fun h5 e5 => ?_
        have q5 := q4.ext e5
        refine cnd_dec.2 ⟨fun hge => ?_, fun hlt' => ?_⟩
        · have hno : hlt x z = false := by
            rw [Bool.eq_false_iff]; intro h; have := hcmp_lt.2 h; omega
          have e : kp k m x = m := by
            unfold kp
            rw [ins_end fun y hy => hltOk.ntr _ _ _ (last_max hs hzl y hy) hno |> fun h => h, List.take_append_of_le_length (by omega), List.take_of_length_le (by omega)]
          have := hK s l h5 q5 (by rw [e]; exact pm.symm) ⟨(e1.trans (y4.trans e5)).onlyP p s, .inl rfl⟩
          rw [e] at this
          simpa using this
        · have hl2 : hlt x z = true := hcmp_lt.1 (by omega)
          refine ldA_blk (s := .ptr) (i := 1) (x := some ⟨p, 0, none⟩) q5.bb rfl ?_
          refine hH_Pop q5.ord.ord lst_lt totH q5.q q5.hp (fun hz0 => by rw [hz0] at hz; cases hz) fun w hw s6 l6 h6 q6 p6 m6 u6 n6 => ?_
          rw [hz] at hw; cases hw
          have hlen6 := m6.length_eq
          simp at hlen6
          have sz5 := (y4.trans e5).size
          have sz1 := e1.size
          have bb6 : Blk h6 b _ := q5.bb.onlyP u6 q5.bp q5.bs
          have c6 : Blk h6 h.size #[.int .u64 (hId x), .int .i64 (hDi x)] := (c4.ext e5).onlyP u6 (by omega) fun a ha => by have := slt a ha; omega
          obtain ⟨k1, k2⟩ := kp_full hs hzl hl2 (pm.trans m6.symm)
          rw [hmeq] at k1 k2
          refine push s6 l6 h6 ⟨bb6, q6, p6, q5.ord, q5.bp, fun a ha => q5.bs a (by rw [← n6]; exact ha)⟩ c6 ⟨((e1.trans (y4.trans e5)).onlyP p s).trans u6, .inl n6⟩ (by omega) k1.symm k2
      · have hlt2 : m.length < k := by omega
        have e : kp k m x = ins hlt x m := by unfold kp; rw [List.take_of_length_le (by rw [(ins_perm hlt x m).length_eq]; simp; omega)]
        refine push s l h4 q4 c4 ⟨(e1.trans y4).onlyP p s, .inl rfl⟩ hb ?_ ?_
        · rw [e]; exact (pm.symm.cons x).trans (ins_perm hlt x m).symm
        · intro he
          have := congrArg List.length he
          rw [e, (ins_perm hlt x m).length_eq] at this
          simp at this
theorem lSWO : Go.Sort.SWO (Go.Proofs.ltOf lstc) := by
  have e : ∀ x y, Go.Proofs.ltOf lstc x y = hlt y x := fun x y => hltOf y x
  refine ⟨fun x => ?_, fun x y z h1 h2 => ?_, fun x y z h1 h2 => ?_⟩
  · rw [e, hlt_no]; omega
  · rw [e, hlt_iff] at *; omega
  · rw [e, hlt_no] at *; omega
theorem b_List {h : Hp} {b p : Nat} {g : FuncId} {s : Sl} {l : List (StA HT)} {k : Nat} {K : Sl → Hp → Prop} (q : BQ h b p g s l k) (hK : ∀ s' h', RH h' s' (srt l) → Ext h h' → K s' h') : C_best_Best_List (some ⟨b, 0, none⟩) h K := by
  have hbd := q.q.bd
  refine F_best_Best_List_ok _ _ _ (ldA_blk (s := .ptr) (i := 1) (x := some ⟨p, 0, none⟩) q.bb rfl ?_)
  refine F_heap_Heap_api_Hit_All_ok _ _ _ (ldA_blk (s := .sl) (i := 1) (x := s) q.q.b rfl ?_)
  refine c_hClone q.q.o.row hbd fun s1 h1 o1 e1 => ?_
  refine ldA_blk (s := .raw) (i := 0) (x := .func (.func g) #[] #[]) (q.q.b.ext e1) rfl ?_
  refine c_SortFunc_api_Hit_api_Hit encHT (cf := lstc) lSWO q.ord.1 q.ord.2 o1 (by omega) fun l' h2 pl hsl o2 u2 => ?_
  have hl' := pl.length_eq
  refine c_hSort o2.row (by omega) fun s3 h3 o3 e3 => ?_
  rw [srt_cong pl] at o3
  exact hK s3 h3 o3.row (((e1.belOf (Nat.le_refl _)).trans (u2.bel (B := h.size) e1.size o1.above)).ext.trans e3)
/-! The document's. -/
theorem c_First {h : Hp} {s : Sl} {l : List (StA HT)} {k : Int} {K : Sl → Hp → Prop} (r : RH h s l) (hb : l.length * 16 ≤ 140737488355328) (hK : ∀ s' h', OwnRow (vsA HT) 2 h.size h' s' (l.take k.toNat) → Ext h h' → K s' h') : C_ref11_First s k h K := by
  have hls := r.len
  refine F_ref11_First_ok _ _ _ _ ?_
  refine Lp.inv (fun st => ∃ j : Nat, st.1.2.1 = (j : Int) ∧ j ≤ l.length ∧ j ≤ k.toNat ∧ OwnRow (vsA HT) 2 h.size st.2 st.1.1 (l.take j) ∧ Ext h st.2) (fun st => l.length - st.1.2.1.toNat) ?_ ⟨0, rfl, by omega, by omega, by simpa using OwnRow.nil _ _ _ _, Ext.refl _⟩
  rintro ⟨⟨sO, i, ⟨⟩⟩, g⟩ R ⟨j, rfl, hj, hjk, oO, x1⟩ hR
  simp only at hj hjk oO x1
  unfold L1_ref11_First
  dsimp only
  have fin : (l.length ≤ j ∨ k.toNat ≤ j) → K sO g := fun hd => by
    have e : l.take j = l.take k.toNat := by
      rcases hd with hd | hd
      · rw [List.take_of_length_le hd, List.take_of_length_le (by omega)]
      · rw [show j = k.toNat by omega]
    rw [e] at oO
    exact hK sO g oO x1
  refine cnd_dec.2 ⟨fun hlt' => cnd_dec.2 ⟨fun hlk => ?_, fun hge => fin (.inr (by omega))⟩, fun hge => fin (.inl (by omega))⟩
  have hx : l[j]? = some l[j] := List.getElem?_eq_getElem (by omega)
  refine ld_row (i := (j : Int)) (x := l[j]) (r.ext x1) (by omega) hx fun a ha hc => ldA_row0 hc rfl (ldA_row hc rfl ?_)
  refine app1 (x := l[j]) encHT (by decide) oO x1.size (by rw [List.length_take]; omega) (by decide) rfl rfl fun s2 g2 o2 u2 b2 n2 => let_to ?_
  dsimp only
  rw [wrap_i64 (by omega) (by omega)]
  refine hR _ ⟨j + 1, by simp, by omega, by omega, ?_, (x1.bel.trans b2).ext⟩ (by simp only; omega)
  rw [List.take_add_one, hx]; exact o2
end Go.Proofs.YtlbpmophbmbfiaaF
