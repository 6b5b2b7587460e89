/- Chapter 10: what the laws of heaps answer. No condition. -/
import Derived.Test.YtcjkclpdkcgpaaaHeapInt
import Derived.Test.YtcjkclpdkcgpaaaHeapPair
namespace Go.Proofs.YtcjkclpdkcgpaaaF
open Go Go.Proofs.YtcjkclpdkcgpaaaK
set_option linter.unusedSimpArgs false
set_option linter.unusedVariables false

def icmp (x y : Int) : Int := if x < y then -1 else if x > y then 1 else 0
theorem icmp_le (x y : Int) : icmp x y ≤ 0 ↔ x ≤ y := by unfold icmp; (repeat' split) <;> constructor <;> intro <;> omega
theorem icmp_lt (x y : Int) : icmp x y < 0 ↔ ¬ y ≤ x := by unfold icmp; (repeat' split) <;> constructor <;> intro <;> omega
theorem totI : Tot (fun x y : Int => x ≤ y) := ⟨fun x y => by omega, fun x y z h1 h2 => by omega⟩
theorem totP : Tot (fun x y : StA PR => x.1 ≤ y.1) := ⟨fun x y => Int.le_total x.1 y.1, fun x y z h1 h2 => Int.le_trans h1 h2⟩
theorem h_order {x y : Int} {h : Hp} {K : Int → Hp → Prop} (hk : K (icmp x y) h) : C_law10_order x y h K := by
  refine F_law10_order_ok _ _ _ _ ?_
  unfold F_law10_order
  unfold icmp at hk
  refine cnd_dec.2 ⟨fun h1 => ?_, fun h1 => cnd_dec.2 ⟨fun h2 => ?_, fun h2 => ?_⟩⟩
  · rw [if_pos h1] at hk; exact hk
  · rw [if_neg h1, if_pos h2] at hk; exact hk
  · rw [if_neg h1, if_neg h2] at hk; exact hk
theorem ordI {f : FuncId} (he : entered Try.prog f = true) (hc : ∀ x y h (K : Int → Hp → Prop), C_law10_order x y h K → CallT Try.prog f [.int .i64 x, .int .i64 y] [.at (.int .i64)] h fun s h => K s.1 h) : OrdV Try.prog (.func (.func f) #[] #[]) hIArg icmp :=
  ⟨rfl, fun x y h K hK => callV_func he (hc x y h K (h_order (hK h (Ext.refl _))))⟩
theorem h_pairOrder {x y : StA PR} {h : Hp} {K : Int → Hp → Prop} (hk : ∀ h', Ext h h' → K (icmp x.1 y.1) h') : C_law10_HeapAlike_1 x.1 x.2.1 y.1 y.2.1 h K := by
  refine F_law10_HeapAlike_1_ok _ _ _ _ _ _ (push_to fun h1 b1 e1 z1 => let_to (push_to fun h2 b2 e2 z2 => let_to ?_))
  exact ldA_blk (s := .int .i64) (x := x.1) (b1.ext e2) rfl (ldA_blk (s := .int .i64) (x := y.1) b2 rfl (h_order (hk _ (e1.trans e2))))
theorem ordP {f : FuncId} (he : entered Try.prog f = true) (hc : ∀ x1 x2 y1 y2 h (K : Int → Hp → Prop), C_law10_HeapAlike_1 x1 x2 y1 y2 h K → CallT Try.prog f [.agg #[.int .i64 x1, .int .i64 x2], .agg #[.int .i64 y1, .int .i64 y2]] [.at (.int .i64)] h fun s h => K s.1 h) :
    OrdV Try.prog (.func (.func f) #[] #[]) hPArg (fun x y => icmp x.1 y.1) :=
  ⟨rfl, fun x y h K hK => callV_func he (hc x.1 x.2.1 y.1 y.2.1 h K (h_pairOrder hK))⟩
theorem _root_.Go.Proofs.YtcjkclpdkcgpaaaK.HQ.frame {α : Type} {enc : α → List Value} {size bytes : Nat} {h h0 h' : Hp} {p : Nat} {v : Value} {s : Sl} {l : List α} (q : HQ enc size bytes h p v s l) (e : Ext h0 h) (hp : h0.size ≤ p) (u : OnlyP p s h h') : Ext h0 h' :=
  ⟨Nat.le_trans e.size u.1, fun i hi => (u.2 i (by have := e.size; omega) (by omega) fun a ha => by have := q.o.above a ha; omega).trans (e.get i hi)⟩

/-- Three are pushed, the least one popped. -/
theorem h_lives {h : Hp} {K : Bool → Hp → Prop} (hK : ∀ h', Ext h h' → K true h') : C_law10_lives h K := by
  refine F_law10_lives_ok _ _ ?_
  refine hI_New rfl fun h1 e1 q1 => ?_
  have hv := fun x => ordI (f := x)
  have P0 : HeapL (fun x y : Int => x ≤ y) [] := fun j x y _ _ h => by cases h
  have le_size : h.size ≤ h.size := Nat.le_refl _
  refine hI_Push (le := fun x y => x ≤ y) (ordI (by kernel_rfl) fun _ _ _ _ c => c) (fun x y => icmp_le x y) totI q1 P0 (by decide) fun s2 l2 h2 q2 p2 m2 u2 _ => ?_
  have f2 := q1.frame e1 le_size u2
  refine hI_Push (ordI (by kernel_rfl) fun _ _ _ _ c => c) (fun x y => icmp_le x y) totI q2 p2 (by rw [m2.length_eq]; decide) fun s3 l3 h3 q3 p3 m3 u3 _ => ?_
  have f3 := q2.frame f2 le_size u3
  have m3' := m3.trans (m2.cons 1)
  refine hI_Push (ordI (by kernel_rfl) fun _ _ _ _ c => c) (fun x y => icmp_le x y) totI q3 p3 (by rw [m3'.length_eq]; decide) fun s4 l4 h4 q4 p4 m4 u4 _ => ?_
  have f4 := q3.frame f3 le_size u4
  have m4' := m4.trans (m3'.cons 2)
  have hlen : l4.length = 3 := m4'.length_eq
  refine hI_Pop (ordI (by kernel_rfl) fun _ _ _ _ c => c) (fun x y => icmp_lt x y) totI q4 p4 (fun hz => by rw [hz] at hlen; cases hlen) fun x hx s5 l5 h5 q5 p5 m5 u5 _ => ?_
  have f5 := q4.frame f4 le_size u5
  have hx1 : x = 1 := by
    have hm : x ∈ l4 := List.mem_of_getElem? hx
    have h1 : (1 : Int) ∈ l4 := m4'.symm.subset (by simp)
    obtain ⟨j, hj⟩ := List.getElem?_of_mem h1
    have := HeapL.head totI p4 hx j 1 hj
    have hx2 := m4'.subset hm
    simp at hx2
    omega
  subst hx1
  refine cnd_yes rfl (cnd_yes rfl ?_)
  refine F_heap_Heap_int_Len_ok _ _ _ (ldA_blk (s := .sl) (i := 1) (x := s5) q5.b rfl ?_)
  have h5l := m5.length_eq
  simp at h5l
  have := q5.o.row.len
  show K ((s5.len : Int) == 2) h5
  rw [show ((s5.len : Int) == 2) = true by rw [beq_iff_eq]; omega]
  exact hK _ f5

def msum (l : List (StA PR)) : Int := (l.map fun x => x.2.1).sum
theorem msum_perm {l l' : List (StA PR)} (p : l.Perm l') : msum l = msum l' := by
  unfold msum
  induction p with
  | nil => rfl
  | cons x p ih => simp only [List.map_cons, List.sum_cons, ih]
  | swap x y l => simp only [List.map_cons, List.sum_cons]; omega
  | trans p q ih1 ih2 => exact ih1.trans ih2
theorem msum_cons (x : StA PR) (l : List (StA PR)) : msum (x :: l) = x.2.1 + msum l := by simp [msum]
theorem wrap_add (a b : Int) : IntKind.wrap .i64 (IntKind.wrap .i64 a + b) = IntKind.wrap .i64 (a + b) := by
  simp only [IntKind.wrap, IntKind.bits, IntKind.signed]
  simp
  omega
theorem wrap_sub (a b : Int) : IntKind.wrap .i64 (IntKind.wrap .i64 a - b) = IntKind.wrap .i64 (a - b) := by
  simp only [IntKind.wrap, IntKind.bits, IntKind.signed]
  simp
  omega
theorem take_perm {α : Type} {l : List α} {k : Nat} {x : α} (h : l[k]? = some x) : (x :: l.take k).Perm (l.take (k + 1)) := by
  rw [List.take_add_one, h]
  exact (List.perm_append_singleton x _).symm
abbrev leP (x y : StA PR) : Prop := x.1 ≤ y.1

theorem heapAlike_ok {s : Sl} {l : List (StA PR)} {h : Hp} (r : IsRow (vsA PR) 2 h s l) (hb : l.length * 16 ≤ 140737488355328) : C_law10_HeapAlike s h fun b h' => b = true ∧ Ext h h' := by
  refine F_law10_HeapAlike_ok _ _ _ (hP_New rfl fun h1 e1 q1 => ?_)
  rw [Jn_eq]
  have hls := r.len
  have psz : h.size ≤ h.size := Nat.le_refl _
  refine Lp.inv (fun st => ∃ (k : Nat) (s' : Sl) (l' : List (StA PR)), st.1.1 = IntKind.wrap .i64 (msum (l.take k)) ∧ st.1.2.1 = (k : Int) ∧ k ≤ l.length ∧ HQ (vsA PR) 2 16 st.2 h.size _ s' l' ∧ HeapL leP l' ∧ l'.Perm (l.take k) ∧ Ext h st.2) (fun st => l.length - st.1.2.1.toNat) ?_
    ⟨0, _, [], by simp [msum]; rfl, rfl, by omega, q1, fun j x y _ _ h => (by cases h), by simp, e1⟩
  rintro ⟨⟨m, i, ⟨⟩⟩, h2⟩ R ⟨k, s2, l2, rfl, rfl, hk, q2, p2, m2, x2⟩ hR
  simp only at hk q2 p2 m2 x2
  have hl2 : l2.length = k := by rw [m2.length_eq, List.length_take]; omega
  unfold L2_law10_HeapAlike
  dsimp only
  refine cnd_dec.2 ⟨fun hlt => ?_, fun hge => ?_⟩
  · have hkl : k < l.length := by omega
    have hx : l[k]? = some l[k] := List.getElem?_eq_getElem hkl
    refine ld_row (i := (k : Int)) (x := l[k]) (r.ext x2) (by omega) (by rw [Int.toNat_natCast]; exact hx) fun a ha hc => ldA_row0 hc rfl (ldA_row hc rfl ?_)
    refine hP_Push (ordP (by kernel_rfl) fun _ _ _ _ _ _ c => c) (fun x y => icmp_le x.1 y.1) totP q2 p2 (by omega) fun s3 l3 h3 q3 p3 m3 u3 _ => ?_
    have x3 := q2.frame x2 psz u3
    refine ld_row (i := (k : Int)) (x := l[k]) (r.ext x3) (by omega) (by rw [Int.toNat_natCast]; exact hx) fun a3 ha3 hc3 => ldA_row hc3 rfl ?_
    simp only [Let_eq]
    rw [wrap_add, wrap_i64 (x := (k : Int) + 1) (by omega) (by omega)]
    have tp := take_perm hx
    refine hR _ ⟨k + 1, s3, l3, ?_, by simp, by omega, q3, p3, m3.trans ((m2.cons _).trans tp), x3⟩ (by simp only; omega)
    rw [← msum_perm tp, msum_cons, Int.add_comm]
  · obtain rfl : k = l.length := by omega
    rw [List.take_length] at m2
    rw [List.take_length]
    clear hR R
    unfold J1_law10_HeapAlike
    rw [Jn_eq]
    refine Lp.inv (fun st => ∃ (k : Nat) (s' : Sl) (l' : List (StA PR)), st.1.1 = IntKind.wrap .i64 (msum l') ∧ st.1.2.2.1 = (k : Int) ∧ l'.length + k = l.length ∧ HQ (vsA PR) 2 16 st.2 h.size _ s' l' ∧ HeapL leP l' ∧ (0 < k → ∀ y ∈ l', st.1.2.1 ≤ y.1) ∧ Ext h st.2) (fun st => l.length - st.1.2.2.1.toNat) ?_
      ⟨0, s2, l2, by rw [msum_perm m2], rfl, by omega, q2, p2, fun h => (by omega), x2⟩
    rintro ⟨⟨m, last, i, ⟨⟩⟩, h3⟩ R ⟨k, s3, l3, rfl, rfl, hk3, q3, p3, hlast, x3⟩ hR
    simp only at hk3 q3 p3 hlast x3
    unfold L1_law10_HeapAlike
    dsimp only
    refine cnd_dec.2 ⟨fun hlt => ?_, fun hge => ?_⟩
    · refine hP_Pop (ordP (by kernel_rfl) fun _ _ _ _ _ _ c => c) (fun x y => icmp_lt x.1 y.1) totP q3 p3 (fun hz => by rw [hz] at hk3; simp at hk3; omega) fun x hx s4 l4 h4 q4 p4 m4 u4 _ => ?_
      have x4 := q3.frame x3 psz u4
      refine push_to fun g1 b1 e1 z1 => let_to ?_
      refine stores_blk (vs := [.int .i64 x.1, .int .i64 x.2.1]) b1 rfl fun g2 b2 w2 k2 z2 => ?_
      simp only [List.take_zero, List.nil_append] at b2
      have hp4 := q4.b.lt
      have slt4 := q4.o.lt
      have q5 := (q4.ext e1).only w2 (by omega) fun a ha => by have := slt4 a ha; omega
      have x5 : Ext h g2 := (x4.trans e1).only_new w2 x4.size
      have next : J3_law10_HeapAlike ((IntKind.wrap .i64 (msum l3), last, (k : Int), ()), h3) R ⟨h4.size, 0, none⟩ () g2 := by
        unfold J3_law10_HeapAlike
        refine ldA_blk (s := .int .i64) (x := x.1) b2 rfl (ldA_blk (s := .int .i64) (i := 1) (x := x.2.1) b2 rfl ?_)
        simp only [Let_eq]
        rw [wrap_sub, wrap_i64 (x := (k : Int) + 1) (by omega) (by omega)]
        have hml := m4.length_eq
        simp at hml
        refine hR _ ⟨k + 1, s4, l4, ?_, by simp, by omega, q5, p4, fun _ y hy => ?_, x5⟩ (by simp only; omega)
        · rw [← msum_perm m4, msum_cons]; simp only; congr 1; omega
        · have hy3 : y ∈ l3 := m4.subset (List.mem_cons_of_mem _ hy)
          obtain ⟨j, hj⟩ := List.getElem?_of_mem hy3
          exact HeapL.head totP p3 hx j y hj
      refine cnd_no rfl (cnd_dec.2 ⟨fun hpos => ldA_blk (s := .int .i64) (x := x.1) b2 rfl (cnd_dec.2 ⟨fun hbad => ?_, fun _ => next⟩), fun _ => next⟩)
      exact absurd hbad (Int.not_lt.2 (hlast (by omega) x (List.mem_of_getElem? hx)))
    · have hl3 : l3 = [] := List.length_eq_zero_iff.1 (by omega)
      subst hl3
      unfold J2_law10_HeapAlike
      refine hP_Pop (ordP (by kernel_rfl) fun _ _ _ _ _ _ c => c) (fun x y => icmp_lt x.1 y.1) totP q3 p3 (fun hz h4 e4 => ?_) fun x hx => by cases hx
      refine push_to fun g1 b1 e1 z1 => let_to ?_
      refine stores_blk (vs := [.int .i64 0, .int .i64 0]) b1 rfl fun g2 b2 w2 k2 z2 => ?_
      refine cnd_yes rfl ?_
      have x5 : Ext h g2 := ((x3.trans e4).trans e1).only_new w2 (x3.trans e4).size
      exact h_lives fun h5 e5 => ⟨rfl, x5.trans e5⟩

theorem heapNone_ok {n : Int} {h : Hp} : C_law10_HeapNone n h fun b h' => b = true ∧ Ext h h' := by
  refine F_law10_HeapNone_ok _ _ _ (hI_Push_nil fun h1 e1 => hI_Pop_nil fun h2 e2 => hI_Top_nil fun h3 e3 => ?_)
  have x3 := e1.trans (e2.trans e3)
  refine cnd_yes rfl (cnd_yes rfl (cnd_yes rfl (cnd_yes rfl (F_heap_Heap_int_Len_ok _ _ _ (cnd_yes rfl (cnd_yes rfl (F_heap_Heap_int_All_ok _ _ _ (cnd_yes rfl (cnd_yes rfl ?_)))))))))
  exact h_lives fun h5 e5 => ⟨rfl, x3.trans e5⟩
end Go.Proofs.YtcjkclpdkcgpaaaF
