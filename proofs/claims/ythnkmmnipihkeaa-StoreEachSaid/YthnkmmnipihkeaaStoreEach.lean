/- Chapter 15: what is gone through. No condition. -/
import Derived.Test.YthnkmmnipihkeaaStoreDoes
namespace Go.Proofs.YthnkmmnipihkeaaF
open Go Go.Proofs.YthnkmmnipihkeaaK
set_option linter.unusedSimpArgs false
set_option linter.unusedVariables false

theorem each_end {h h3 : Hp} {p2 p4 p8 p16 : Nat} {most : Int} {r : Sl} {n N : Nat} (x3 : Ext h h3) (hp4 : h.size ≤ p4) (hr : r.len = N) {g : Hp} (xg : Ext h g) (b2 : Blk g p2 #[.int .i64 most]) (b4 : Blk g p4 #[.bool false]) (b8 : Blk g p8 #[.slice r.a r.len r.cap]) (b16 : Blk g p16 #[.int .i64 (n : Int)])
    (hn : n = N ∨ (n : Int) = if 1 > most then 1 else most) : J2_law15_StoreEach h (Yes h) ⟨p2, 0, none⟩ ⟨p4, 0, none⟩ ⟨p8, 0, none⟩ ⟨p16, 0, none⟩ () g := by
  have fin : C_law15_lives g fun (t20 : Bool) (h21 : Hp) => ((1 : Nat) = 1) ∧ (stC h21 ⟨p4, 0, none⟩ (Let (hset h21 ⟨p4, 0, none⟩ (.bool t20)) fun (h22 : Hp) => ∀ (h23 : Hp), Stp (Array.size h) h22 h23 → (ldA .bool h23 ⟨p4, 0, none⟩ fun (r24 : Bool) => Yes h r24 h23))) := by
    refine c_lives fun g2 e2 => ⟨rfl, set_to (i := 0) (b4.ext e2) (by simp) fun g3 b3 o3 _ z3 g4 st => ?_⟩
    have b3 : Blk g3 p4 #[.bool true] := by simpa using b3
    refine ldA_blk (s := .bool) (i := 0) (x := true) (b3.stp st) rfl ⟨rfl, ?_⟩
    exact st.ext ((xg.trans e2).only_new o3 hp4) (Nat.le_refl _)
  unfold J2_law15_StoreEach
  refine ldA_blk (s := .int .i64) (i := 0) (x := (n : Int)) b16 rfl (ldA_blk (s := .sl) (i := 0) (x := r) b8 rfl (cnd_beq.2 ⟨fun _ => fin, fun hne => ?_⟩))
  refine ldA_blk (s := .int .i64) (i := 0) (x := (n : Int)) b16 rfl (ldA_blk (s := .int .i64) (i := 0) (x := most) b2 rfl (let_to (cnd_beq.2 ⟨fun _ => fin, fun hne2 => ?_⟩)))
  rcases hn with h1 | h1
  · exact (hne (by rw [hr, h1])).elim
  · exact (hne2 h1).elim
theorem storeEach_ok {h : Hp} {s : Sl} {ds : List (StA IT)} {dits : List It} (row : IsRow (vsA IT) 4 h s ds) (rel : A2 (ItR h) ds dits) (hl : ds.length * 56 ≤ 140737488355328 - 4096) {most : Int} : C_law15_StoreEach s most h (Yes h) := by
  have hsl := row.len
  have hdl := rel.1
  refine F_law15_StoreEach_ok _ _ _ _ (push_to fun h1 b1 e1 z1 => let_to (push_to fun h3 b3 e3 z3 => let_to (s_New fun p S h6 q hS hf e6 => push_to fun h7 b7 e7 z7 => let_to ?_)))
  rw [Jn_eq]
  have x3 := e1.trans e3
  have hz6 := e6.size
  refine Lp.inv (fun st => ∃ (i : Nat) (S : SP) (its : List It) (r : Sl), st.1.1 = (i : Int) ∧ i ≤ ds.length ∧ Side h3 st.2 p S r its ∧ S.slots.length ≤ i ∧ Blk st.2 h6.size #[.slice r.a r.len r.cap] ∧ ¬ fp p S h6.size ∧ ∀ a, r.a = some a → a.block ≠ h6.size) (fun st => ds.length - st.1.1.toNat) ?_
    ⟨0, S, [], ⟨none, 0, 0⟩, rfl, by omega, ⟨e6.trans e7, q.ext e7, hf, ⟨[], IsRow.nil _ _ _ _, A2.nil⟩, fun a ha => (by cases ha)⟩, by rw [hS]; exact Nat.le_refl _, b7, (fun hh => by have := q.lt _ hh; omega), fun a ha => (by cases ha)⟩
  rintro ⟨⟨i0, ⟨⟩⟩, g⟩ R ⟨i, S1, its, r, hi, hin, sd, hsn, b8, hp8, hr8⟩ hR
  simp only at hi sd b8
  subst hi
  unfold L1_law15_StoreEach
  dsimp only
  have xg : Ext h g := x3.trans sd.x
  refine cnd_dec.2 ⟨fun hlt => ?_, fun hge => ?_⟩
  · have hx : ds[i]? = some (ds[i]'(by omega)) := List.getElem?_eq_getElem _
    have hit : dits[i]? = some (dits[i]'(by omega)) := List.getElem?_eq_getElem _
    generalize (ds[i]'(by omega)) = x at hx
    generalize (dits[i]'(by omega)) = it at hit
    have rx := (rel.2 i x it hx hit).ext x3
    refine i_ld (row.ext xg) rfl hx fun a l1 l2 l3 l4 _ _ => l1 (l2 (l3 (l4 ?_)))
    refine both_Put sd rx (by omega) fun e g2 x2 hz2 hfr hc2 => ?_
    have b8g : Blk g2 h6.size #[.slice r.a r.len r.cap] := by
      obtain ⟨el, hb⟩ := b8
      exact ⟨el, by rw [hfr _ (block_lt hb) hp8]; exact hb⟩
    refine ldA_blk (s := .sl) (i := 0) (x := r) b8g rfl (i_ld ((row.ext x3).ext x2) rfl hx fun a l1 l2 l3 l4 _ _ => l1 (l2 (l3 (l4 ?_))))
    refine hc2 fun r' S' its' g3 k hs e3' hnw hra => ⟨rfl, set_to (i := 0) (b8g.ext e3') (by simp) fun g4 b4 o4 _ z4 => let_to ?_⟩
    rw [wrap_i64 (by omega) (by omega)]
    have hp8' : ¬ fp p S' h6.size := fun hh => by
      rcases hnw _ hh with h | h
      · exact hp8 h
      · have := b8.lt; omega
    have hb8 := b8.lt
    have hr8' : ∀ a, r'.a = some a → a.block ≠ h6.size := fun a ha => by
      rcases hra a ha with h | h
      · exact hr8 a h
      · omega
    refine hR _ ⟨i + 1, S', its', r', rfl, by omega, ⟨k.x.only_new o4 hz6, k.q.keep (show g3.size ≤ g4.size by omega) fun b hb => o4.get b (k.q.lt b hb) fun e => hp8' (e ▸ hb), k.f, ?_, fun a ha => ⟨(k.rs a ha).1, by have := (k.rs a ha).2; simp only; omega⟩⟩, by omega, by simpa using b4, hp8', hr8'⟩ (by show ds.length - ((i : Int) + 1).toNat < ds.length - (i : Int).toNat; omega)
    obtain ⟨xs, r1, r2⟩ := k.rx
    exact ⟨xs, r1.only o4 hr8', r2⟩
  · clear hR R
    unfold J1_law15_StoreEach
    have hcnt := sd.q.cnt
    have hlen := sd.q.len
    refine s_Each (its := its) (by omega) (all_some (S := S1) (by omega)) fun gf lb pb g2 it hpb bpb e2 => ?_
    show funNil (.func (.func gf) #[] lb) _
    unfold funNil
    dsimp only
    refine cnd_no rfl ?_
    refine push_to fun g3 b3n e3n z3n => ?_
    refine let_to ⟨rfl, ?_⟩
    refine set_to (i := 0) b3n (by simp) fun g4 b16 o16 _ z16 => ?_
    rw [Jn_eq]
    have b16 : Blk g4 g2.size #[.int .i64 ((([] : List (StA IT)).length : Nat) : Int)] := by simpa using b16
    have x24 : Ext g2 g4 := e3n.only_new o16 (Nat.le_refl _)
    have hz2 := e2.size
    have sd2 := sd.ext e2
    have bx2 : ∀ {w : Hp}, Ext g2 w → Blk w h.size #[.int .i64 most] ∧ Blk w h1.size #[.bool false] ∧ Blk w h6.size #[.slice r.a r.len r.cap] := fun {w} x => ⟨((b1.ext e3).ext sd2.x).ext x, (b3.ext sd2.x).ext x, (b8.ext e2).ext x⟩
    have hrl := sd2.rx.len
    have hd : ∀ {w : Hp} {n : Nat}, Ext g2 w → Blk w g2.size #[.int .i64 (n : Int)] → (n = its.length ∨ (n : Int) = if 1 > most then 1 else most) → J2_law15_StoreEach h (Yes h) ⟨h.size, 0, none⟩ ⟨h1.size, 0, none⟩ ⟨h6.size, 0, none⟩ ⟨g2.size, 0, none⟩ () w := fun {w n} x bn hn => by
      obtain ⟨a1, a2, a3⟩ := bx2 x
      exact each_end x3 (by omega) hrl ((x3.trans sd2.x).trans x) a1 a2 a3 bn hn
    refine rngF_ofQ it (fun w => Ext g2 w ∧ Blk w g2.size #[.int .i64 ((([] : List (StA IT)).length : Nat) : Int)] ∧ g4.size ≤ w.size) (fun S pre w => Ext g2 w ∧ Blk w g2.size #[.int .i64 ((pre.length : Nat) : Int)] ∧ g4.size ≤ w.size ∧ pre.length ≤ its.length ∧ (pre.length = 0 ∨ (pre.length : Int) < most))
      (fun c S pre w => c = some 2 ∧ Ext g2 w ∧ Blk w g2.size #[.int .i64 ((pre.length : Nat) : Int)] ∧ (pre.length : Int) = if 1 > most then 1 else most) ?_ ?_ ?_ ?_ ?_ ?_ ⟨x24, b16, Nat.le_refl _⟩ ?_ ?_ ?_
    · rintro w1 w2 ⟨a1, a2, a3⟩ st
      exact ⟨st.ext a1 x24.size, a2.stp st, Nat.le_trans a3 st.size⟩
    · rintro S pre w1 w2 ⟨a1, a2, a3, a4⟩ st
      exact ⟨st.ext a1 x24.size, a2.stp st, Nat.le_trans a3 st.size, a4⟩
    · rintro c S pre w1 w2 ⟨a0, a1, a2, a3⟩ st
      exact ⟨a0, st.ext a1 x24.size, a2.stp st, a3⟩
    · rintro w ⟨a1, _⟩
      exact ⟨by have := a1.size; omega, bpb.ext a1, sd2.q.ext a1⟩
    · rintro S pre w ⟨a1, _⟩
      exact ⟨by have := a1.size; omega, bpb.ext a1, sd2.q.ext a1⟩
    · rintro S w _ ⟨a1, a2, a3⟩
      exact ⟨a1, a2, a3, Nat.zero_le _, .inl rfl⟩
    · rintro S pre x w ⟨itm, hit, rx, hvx⟩ ⟨a1, a2, a3, a4, a5⟩
      refine push_to fun w1 c1 f1 y1 => let_to (set_to (i := 0) c1 (by simp) fun w2 c2 p2 _ y2 => set_to (i := 1) c2 (by simp) fun w3 c3 p3 _ y3 => set_to (i := 2) c3 (by simp) fun w4 c4 p4 _ y4 => set_to (i := 3) c4 (by simp) fun w5 c5 p5 _ y5 => ?_)
      have f5 : Ext w w5 := (((f1.only_new p2 (Nat.le_refl _)).only_new p3 (Nat.le_refl _)).only_new p4 (Nat.le_refl _)).only_new p5 (Nat.le_refl _)
      have c5 : Blk w5 w.size #[.int .u64 x.1, .int .i64 x.2.1, .slice (iV x).a (iV x).len (iV x).cap, .string x.2.2.2.1] := by simpa using c5
      refine ⟨RKeep.ext f5, fun w6 st => ?_⟩
      show Jn (J3_law15_StoreEach _ _ _ _ _ _) _
      rw [Jn_eq]
      have st6 : Stp g4.size w w6 := (Stp.ofExt f5 a3).trans st
      have x6 : Ext g2 w6 := st6.ext a1 x24.size
      have bn6 := a2.stp st6
      have c6 := c5.stp st
      have rx6 := rx.stp st6
      obtain ⟨bm, _, b86⟩ := bx2 x6
      have hpl : pre.length < its.length := (List.getElem?_eq_some_iff.1 hit).1
      obtain ⟨ys, ry1, ry2⟩ := (sd2.rx).ext x6
      have hy : ys[pre.length]? = some (ys[pre.length]'(by rw [ry2.1]; exact hpl)) := List.getElem?_eq_getElem _
      generalize (ys[pre.length]'(by rw [ry2.1]; exact hpl)) = y at hy
      have ryy := (ry2.2 _ y itm hy hit).ext (sd2.x.trans x6)
      have ldn : ∀ {K : Int → Prop}, K (pre.length : Int) → ldA (.int .i64) w6 ⟨g2.size, 0, none⟩ K := fun hk => ldA_blk (s := .int .i64) (i := 0) (x := (pre.length : Int)) bn6 rfl hk
      have ldr : ∀ {K : Sl → Prop}, K r → ldA .sl w6 ⟨h6.size, 0, none⟩ K := fun hk => ldA_blk (s := .sl) (i := 0) (x := r) b86 rfl hk
      refine ldn (ldr (cnd_no (decide_eq_false (by omega)) ?_))
      refine ldA_blk (s := .int .u64) (i := 0) (x := x.1) c6 rfl (ldr (ldn (i_ld ry1 rfl hy fun a l1 _ _ _ _ _ => l1 (cnd_bne.2 ⟨fun hne => (hne (rx6.id.trans ryy.id.symm)).elim, fun _ => ?_⟩))))
      refine ldA_blk (s := .int .i64) (i := 1) (x := x.2.1) c6 rfl (ldA_blk (s := .sl) (i := 2) (x := iV x) c6 rfl (ldA_blk (s := .str) (i := 3) (x := x.2.2.2.1) c6 rfl (ldr (ldn (i_ld ry1 rfl hy fun a _ m1 _ _ m2 m3 => m1 (m2 (m3 ?_)))))))
      refine it_Same rx6 ryy fun w7 e7 => ?_
      unfold J3_law15_StoreEach
      refine cnd_no rfl ?_
      have bn7 := bn6.ext e7
      refine ldA_blk (s := .int .i64) (i := 0) (x := (pre.length : Int)) bn7 rfl (let_to ⟨rfl, ?_⟩)
      rw [wrap_i64 (by omega) (by omega)]
      refine set_to (i := 0) bn7 (by simp) fun w8 b8' o8 k8 z8 => ?_
      have b8n : Blk w8 g2.size #[.int .i64 (((pre ++ [x]).length : Nat) : Int)] := by
        rw [List.length_append, List.length_singleton, Int.natCast_add]; simpa using b8'
      have x8 : Ext g2 w8 := (x6.trans e7).only_new o8 (Nat.le_refl _)
      have hln : ((pre ++ [x]).length : Int) = (pre.length : Int) + 1 := by simp
      refine ldA_blk (s := .int .i64) (i := 0) (x := (pre.length : Int) + 1) (show Blk w8 g2.size #[.int .i64 ((pre.length : Int) + 1)] by rw [← hln]; exact b8n) rfl (ldA_blk (s := .int .i64) (i := 0) (x := most) (bx2 x8).1 rfl ?_)
      have hg24 := x24.size
      have rk : RKeep w6 w8 := (RKeep.ext e7).trans k8
      have hz6 := st6.size
      have hz7 := e7.size
      refine cnd_dec.2 ⟨fun hge => ⟨rk, rfl, x8, b8n, ?_⟩, fun hnl => ⟨rk, ⟨x8, b8n, by omega, ?_, .inr (by rw [hln]; omega)⟩, ?_⟩⟩
      · rw [hln]
        split
        · rcases a5 with h | h <;> omega
        · rcases a5 with h | h <;> omega
      · rw [List.length_append, List.length_singleton]; omega
      · exact (((Kp.ofExt f5).trans (Kp.ofStp st)).trans (Kp.ofExt e7)).trans (Kp.ofOnly o8 (.inl (by omega)))
    · rintro S xs w hxs ⟨a1, a2, _⟩
      exact hd a1 a2 (.inl hxs)
    · rintro c S pre w _ ⟨rfl, a1, a2, a3⟩
      show J2_law15_StoreEach _ _ _ _ _ _ () _
      exact hd a1 a2 (.inr a3)
end Go.Proofs.YthnkmmnipihkeaaF
