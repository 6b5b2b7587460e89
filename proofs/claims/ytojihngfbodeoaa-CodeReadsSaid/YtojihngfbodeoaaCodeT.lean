/- Chapter 3: a part read; texts read. No condition. -/
import Derived.Test.YtojihngfbodeoaaCodeR
namespace Go.Proofs.YtojihngfbodeoaaF
open Go Go.Proofs.YtojihngfbodeoaaK
set_option linter.unusedSimpArgs false
set_option linter.unusedVariables false

theorem Bel.only {B b : Nat} {h h' : Hp} (o : Only b h h') (hb : B ≤ b) (hB : B ≤ h.size) : Bel B h h' := ⟨o.size, fun i hi => o.get i (by omega) (by omega)⟩
/-- A part read, by whatever reader: what the four readings tell of it. -/
theorem t_take {r : Option Addr} {p : Nat} {k N I lo hi mo : Int} {F : Bool} {T : ByteArray} {h : Hp} {K : Int → Int → Int → Bool → ByteArray → Int → Int → Int → Hp → Prop} (hp : p ≠ h.size ∧ p ≠ h.size + 1 ∧ p ≠ h.size + 2)
    {P0 P1 : Int → Hp → Prop} {P2 : Bool → Hp → Prop} {P3 : ByteArray → Hp → Prop}
    (hN : k = 0 → ∀ h1, Ext h h1 → ∀ K1 : Int → Hp → Prop, (∀ x h2, Only p h1 h2 → P0 x h2 → K1 x h2) → C_code_Reader_Num r N h1 K1)
    (hI : k = 1 → ∀ h1, Ext h h1 → ∀ K1 : Int → Hp → Prop, (∀ x h2, Only p h1 h2 → P1 x h2 → K1 x h2) → C_code_Reader_Int r lo hi h1 K1)
    (hF : k = 2 → ∀ h1, Ext h h1 → ∀ K1 : Bool → Hp → Prop, (∀ x h2, Only p h1 h2 → P2 x h2 → K1 x h2) → C_code_Reader_Flag r h1 K1)
    (hT : k ≠ 0 → k ≠ 1 → k ≠ 2 → ∀ h1, Ext h h1 → ∀ K1 : ByteArray → Hp → Prop, (∀ x h2, Only p h1 h2 → P3 x h2 → K1 x h2) → C_code_Reader_Text r mo h1 K1)
    (hK : ∀ n i f t h1 h2 h', Ext h h1 → Only p h1 h2 → Bel h.size h2 h' → (k = 0 ∧ P0 n h2 ∧ i = 0 ∧ f = false ∧ t = ByteArray.mk #[]) ∨ (k = 1 ∧ P1 i h2 ∧ n = 0 ∧ f = false ∧ t = ByteArray.mk #[]) ∨ (k = 2 ∧ P2 f h2 ∧ n = 0 ∧ i = 0 ∧ t = ByteArray.mk #[]) ∨ ((k ≠ 0 ∧ k ≠ 1 ∧ k ≠ 2) ∧ P3 t h2 ∧ n = 0 ∧ i = 0 ∧ f = false) → K k n i f t 0 0 0 h') :
    C_law03_take r k N I F T lo hi mo h K := by
  refine F_law03_take_ok _ _ _ _ _ _ _ _ _ _ _ (push_to fun g1 b1 e1 z1 => let_to (push_to fun g2 b2 e2 z2 => let_to (ldA_blk (s := .int .i64) (x := k) (b1.ext e2) rfl (push_to fun g3 b3 e3 z3 => let_to ?_))))
  refine stores_blk (vs := [.int .i64 k, .int .u64 0, .int .i64 0, .bool false, .string (ByteArray.mk #[]), .int .i64 0, .int .i64 0, .int .i64 0]) b3 rfl fun g4 b4 u4 _ z4 => ?_
  simp only [List.take_zero, List.nil_append] at b4
  have x4 : Ext h g4 := (e1.trans (e2.trans e3)).only_new u4 (by omega)
  have c1 : Blk g4 h.size _ := ((b1.ext e2).ext e3).only u4 (by omega)
  have c2 : Blk g4 g1.size _ := (b2.ext e3).only u4 (by omega)
  refine ldA_blk (s := .int .i64) (x := k) c1 rfl ?_
  refine cnd_beq.2 ⟨fun h0 => ?_, fun n0 => cnd_beq.2 ⟨fun h1 => ?_, fun n1 => cnd_beq.2 ⟨fun h2 => ?_, fun n2 => ?_⟩⟩⟩
  · refine ldA_blk (s := .int .u64) (i := 1) (x := N) c1 rfl (hN h0 g4 x4 _ ?_)
    refine fun x g5 u5 pp => ⟨rfl, ?_⟩
    have d7 : Blk g5 g2.size _ := b4.only u5 (by omega)
    have d4 : Blk g5 g1.size _ := c2.only u5 (by omega)
    have s5 := u5.size
    refine set_to d7 (i := 1) (by simp) fun g6 b6 u6 _ z6 => ?_
    simp only [List.setIfInBounds_toArray, List.set_cons_succ, List.set_cons_zero] at b6
    refine ldA_blk (s := .int .i64) (i := 0) (x := k) b6 rfl (ldA_blk (s := .int .u64) (i := 1) (x := x) b6 rfl (ldA_blk (s := .int .i64) (i := 2) (x := 0) b6 rfl (ldA_blk (s := .bool) (i := 3) (x := false) b6 rfl (ldA_blk (s := .str) (i := 4) (x := (ByteArray.mk #[])) b6 rfl (ldA_blk (s := .int .i64) (i := 5) (x := 0) b6 rfl (ldA_blk (s := .int .i64) (i := 6) (x := 0) b6 rfl (ldA_blk (s := .int .i64) (i := 7) (x := 0) b6 rfl (?_))))))))
    refine stores_blk (vs := [.int .i64 k, .int .u64 x, .int .i64 0, .bool false, .string (ByteArray.mk #[]), .int .i64 0, .int .i64 0, .int .i64 0]) (d4.only u6 (by omega)) rfl fun g7 b7 u7 _ z7 => ?_
    simp only [List.take_zero, List.nil_append] at b7
    refine ldA_blk (s := .int .i64) (i := 0) (x := k) b7 rfl (ldA_blk (s := .int .u64) (i := 1) (x := x) b7 rfl (ldA_blk (s := .int .i64) (i := 2) (x := 0) b7 rfl (ldA_blk (s := .bool) (i := 3) (x := false) b7 rfl (ldA_blk (s := .str) (i := 4) (x := (ByteArray.mk #[])) b7 rfl (ldA_blk (s := .int .i64) (i := 5) (x := 0) b7 rfl (ldA_blk (s := .int .i64) (i := 6) (x := 0) b7 rfl (ldA_blk (s := .int .i64) (i := 7) (x := 0) b7 rfl (?_))))))))
    have sz := x4.size
    have bl : Bel h.size g5 g7 := (Bel.only u6 (by omega) (by omega)).trans (Bel.only u7 (by omega) (by omega))
    exact hK x 0 false _ g4 g5 g7 x4 u5 bl (.inl ⟨h0, pp, rfl, rfl, rfl⟩)
  · refine ldA_blk (s := .int .i64) (i := 5) (x := lo) c1 rfl (ldA_blk (s := .int .i64) (i := 6) (x := hi) c1 rfl (hI h1 g4 x4 _ ?_))
    refine fun x g5 u5 pp => ⟨rfl, ?_⟩
    have d7 : Blk g5 g2.size _ := b4.only u5 (by omega)
    have d4 : Blk g5 g1.size _ := c2.only u5 (by omega)
    have s5 := u5.size
    refine set_to d7 (i := 2) (by simp) fun g6 b6 u6 _ z6 => ?_
    simp only [List.setIfInBounds_toArray, List.set_cons_succ, List.set_cons_zero] at b6
    refine ldA_blk (s := .int .i64) (i := 0) (x := k) b6 rfl (ldA_blk (s := .int .u64) (i := 1) (x := 0) b6 rfl (ldA_blk (s := .int .i64) (i := 2) (x := x) b6 rfl (ldA_blk (s := .bool) (i := 3) (x := false) b6 rfl (ldA_blk (s := .str) (i := 4) (x := (ByteArray.mk #[])) b6 rfl (ldA_blk (s := .int .i64) (i := 5) (x := 0) b6 rfl (ldA_blk (s := .int .i64) (i := 6) (x := 0) b6 rfl (ldA_blk (s := .int .i64) (i := 7) (x := 0) b6 rfl (?_))))))))
    refine stores_blk (vs := [.int .i64 k, .int .u64 0, .int .i64 x, .bool false, .string (ByteArray.mk #[]), .int .i64 0, .int .i64 0, .int .i64 0]) (d4.only u6 (by omega)) rfl fun g7 b7 u7 _ z7 => ?_
    simp only [List.take_zero, List.nil_append] at b7
    refine ldA_blk (s := .int .i64) (i := 0) (x := k) b7 rfl (ldA_blk (s := .int .u64) (i := 1) (x := 0) b7 rfl (ldA_blk (s := .int .i64) (i := 2) (x := x) b7 rfl (ldA_blk (s := .bool) (i := 3) (x := false) b7 rfl (ldA_blk (s := .str) (i := 4) (x := (ByteArray.mk #[])) b7 rfl (ldA_blk (s := .int .i64) (i := 5) (x := 0) b7 rfl (ldA_blk (s := .int .i64) (i := 6) (x := 0) b7 rfl (ldA_blk (s := .int .i64) (i := 7) (x := 0) b7 rfl (?_))))))))
    have sz := x4.size
    have bl : Bel h.size g5 g7 := (Bel.only u6 (by omega) (by omega)).trans (Bel.only u7 (by omega) (by omega))
    exact hK 0 x false _ g4 g5 g7 x4 u5 bl (.inr (.inl ⟨h1, pp, rfl, rfl, rfl⟩))
  · refine hF h2 g4 x4 _ ?_
    refine fun x g5 u5 pp => ⟨rfl, ?_⟩
    have d7 : Blk g5 g2.size _ := b4.only u5 (by omega)
    have d4 : Blk g5 g1.size _ := c2.only u5 (by omega)
    have s5 := u5.size
    refine set_to d7 (i := 3) (by simp) fun g6 b6 u6 _ z6 => ?_
    simp only [List.setIfInBounds_toArray, List.set_cons_succ, List.set_cons_zero] at b6
    refine ldA_blk (s := .int .i64) (i := 0) (x := k) b6 rfl (ldA_blk (s := .int .u64) (i := 1) (x := 0) b6 rfl (ldA_blk (s := .int .i64) (i := 2) (x := 0) b6 rfl (ldA_blk (s := .bool) (i := 3) (x := x) b6 rfl (ldA_blk (s := .str) (i := 4) (x := (ByteArray.mk #[])) b6 rfl (ldA_blk (s := .int .i64) (i := 5) (x := 0) b6 rfl (ldA_blk (s := .int .i64) (i := 6) (x := 0) b6 rfl (ldA_blk (s := .int .i64) (i := 7) (x := 0) b6 rfl (?_))))))))
    refine stores_blk (vs := [.int .i64 k, .int .u64 0, .int .i64 0, .bool x, .string (ByteArray.mk #[]), .int .i64 0, .int .i64 0, .int .i64 0]) (d4.only u6 (by omega)) rfl fun g7 b7 u7 _ z7 => ?_
    simp only [List.take_zero, List.nil_append] at b7
    refine ldA_blk (s := .int .i64) (i := 0) (x := k) b7 rfl (ldA_blk (s := .int .u64) (i := 1) (x := 0) b7 rfl (ldA_blk (s := .int .i64) (i := 2) (x := 0) b7 rfl (ldA_blk (s := .bool) (i := 3) (x := x) b7 rfl (ldA_blk (s := .str) (i := 4) (x := (ByteArray.mk #[])) b7 rfl (ldA_blk (s := .int .i64) (i := 5) (x := 0) b7 rfl (ldA_blk (s := .int .i64) (i := 6) (x := 0) b7 rfl (ldA_blk (s := .int .i64) (i := 7) (x := 0) b7 rfl (?_))))))))
    have sz := x4.size
    have bl : Bel h.size g5 g7 := (Bel.only u6 (by omega) (by omega)).trans (Bel.only u7 (by omega) (by omega))
    exact hK 0 0 x _ g4 g5 g7 x4 u5 bl (.inr (.inr (.inl ⟨h2, pp, rfl, rfl, rfl⟩)))
  · refine ldA_blk (s := .int .i64) (i := 7) (x := mo) c1 rfl (hT n0 n1 n2 g4 x4 _ ?_)
    refine fun x g5 u5 pp => ⟨rfl, ?_⟩
    have d7 : Blk g5 g2.size _ := b4.only u5 (by omega)
    have d4 : Blk g5 g1.size _ := c2.only u5 (by omega)
    have s5 := u5.size
    refine set_to d7 (i := 4) (by simp) fun g6 b6 u6 _ z6 => ?_
    simp only [List.setIfInBounds_toArray, List.set_cons_succ, List.set_cons_zero] at b6
    refine ldA_blk (s := .int .i64) (i := 0) (x := k) b6 rfl (ldA_blk (s := .int .u64) (i := 1) (x := 0) b6 rfl (ldA_blk (s := .int .i64) (i := 2) (x := 0) b6 rfl (ldA_blk (s := .bool) (i := 3) (x := false) b6 rfl (ldA_blk (s := .str) (i := 4) (x := x) b6 rfl (ldA_blk (s := .int .i64) (i := 5) (x := 0) b6 rfl (ldA_blk (s := .int .i64) (i := 6) (x := 0) b6 rfl (ldA_blk (s := .int .i64) (i := 7) (x := 0) b6 rfl (?_))))))))
    refine stores_blk (vs := [.int .i64 k, .int .u64 0, .int .i64 0, .bool false, .string x, .int .i64 0, .int .i64 0, .int .i64 0]) (d4.only u6 (by omega)) rfl fun g7 b7 u7 _ z7 => ?_
    simp only [List.take_zero, List.nil_append] at b7
    refine ldA_blk (s := .int .i64) (i := 0) (x := k) b7 rfl (ldA_blk (s := .int .u64) (i := 1) (x := 0) b7 rfl (ldA_blk (s := .int .i64) (i := 2) (x := 0) b7 rfl (ldA_blk (s := .bool) (i := 3) (x := false) b7 rfl (ldA_blk (s := .str) (i := 4) (x := x) b7 rfl (ldA_blk (s := .int .i64) (i := 5) (x := 0) b7 rfl (ldA_blk (s := .int .i64) (i := 6) (x := 0) b7 rfl (ldA_blk (s := .int .i64) (i := 7) (x := 0) b7 rfl (?_))))))))
    have sz := x4.size
    have bl : Bel h.size g5 g7 := (Bel.only u6 (by omega) (by omega)).trans (Bel.only u7 (by omega) (by omega))
    exact hK 0 0 false x g4 g5 g7 x4 u5 bl (.inr (.inr (.inr ⟨⟨n0, n1, n2⟩, pp, rfl, rfl, rfl⟩)))
theorem c_Text_nil {h : Hp} {most : Int} {K : ByteArray → Hp → Prop} (hK : ∀ h', Ext h h' → K (ByteArray.mk #[]) h') : C_code_Reader_Text none most h K := by
  refine F_code_Reader_Text_ok _ _ _ _ (push_to fun h1 b1 e1 z1 => let_to (c_take_nil ?_))
  exact hK h1 e1
/-- What is left, and an error's number, once a text is read. -/
def tx (most : Int) (l : List Int) (e : Int) : List Int × List Int × Int :=
  let q := tk (fun n => decide (0 ≤ most) && decide ((n : Int) ≤ most)) l e
  if q.2.2 ≠ 0 then ([], q.2.1, q.2.2) else if q.2.1.length < q.1 then ([], q.2.1, 13) else (q.2.1.take q.1, q.2.1.drop q.1, 0)
theorem btS_row {h : Hp} {s : Sl} {l : List Int} (r : R8 h s l) (hb : By l) {a : Option Addr} {n : Nat} (ha : a = s.a) (hn : n ≤ l.length) {K : ByteArray → Prop} (hk : ∀ t, bts t = l.take n → K t) : btS h a n K := by
  subst ha
  have key : ∀ l : List Int, By l → ∃ bs : List UInt8, bs.map (fun b => (b.toNat : Int)) = l := by
    intro l
    induction l with
    | nil => exact fun _ => ⟨[], rfl⟩
    | cons c l ih =>
      intro hb
      obtain ⟨bs, e⟩ := ih fun d hd => hb d (by simp [hd])
      have hc := hb c (by simp)
      refine ⟨UInt8.ofNat c.toNat :: bs, ?_⟩
      simp only [List.map_cons, e]
      congr 1
      rw [UInt8.toNat_ofNat']; omega
  unfold btS
  cases hs : s.a with
  | none =>
    have hl : l = [] := Classical.byContradiction fun h => by obtain ⟨a, ha⟩ := r.at_ h; rw [hs] at ha; cases ha
    subst hl
    exact hk _ (by rw [List.take_nil]; rfl)
  | some a =>
    obtain ⟨bs, e⟩ := key (l.take n) fun c hc => hb c (List.mem_of_mem_take hc)
    have hbl : bs.length = n := by
      have := congrArg List.length e
      rw [List.length_map, List.length_take] at this; omega
    refine ⟨bs, hbl, fun i hi => ?_, hk _ ?_⟩
    · have hx : l[i]? = some l[i] := List.getElem?_eq_getElem (by omega)
      have := r.get a i l[i] hs hx 0 (by simp [encI])
      rw [add_zero, Nat.mul_one] at this
      rw [this]
      have e2 : (bs.map fun b => (b.toNat : Int))[i]? = some l[i] := by rw [e, List.getElem?_take, if_pos hi]; exact hx
      rw [List.getElem?_map] at e2
      cases hbi : bs[i]? with
      | none => rw [hbi] at e2; cases e2
      | some b => rw [hbi] at e2; simp at e2; simp [encI, e2]
    · unfold bts; exact e
theorem c_Text {h : Hp} {p : Nat} {s : Sl} {l : List Int} {e most : Int} {K : ByteArray → Hp → Prop} (q : RQ h p s l e) (hmo : I64 most) (hl : l.length ≤ 140737488355328)
    (hK : ∀ t s' h', bts t = (tx most l e).1 → RQ h' p s' (tx most l e).2.1 (tx most l e).2.2 → Only p h h' → K t h') : C_code_Reader_Text (some ⟨p, 0, none⟩) most h K := by
  have nb := numb_lt q.by_
  unfold I64 at hmo
  refine F_code_Reader_Text_ok _ _ _ _ (push_to fun h1 b1 e1 z1 => let_to ?_)
  refine c_take (may := fun n => decide (0 ≤ most) && decide ((n : Int) ≤ most)) (M := fun _ h' => h' = h1) (q.ext e1) (fun _ _ => ?_) rfl fun c s' h2 h3 hm _ q3 o3 => ?_
  · refine callV_fun (by kernel_rfl) ?_
    have hc : C_code_Reader_Text_1 ((numb l).1 : Int) (some ⟨h.size, 0, none⟩) h1 (fun r h' => r = (decide (0 ≤ most) && decide (((numb l).1 : Int) ≤ most)) ∧ RQ h' p s l e ∧ h' = h1) := by
      refine F_code_Reader_Text_1_ok _ _ _ _ (ldA_blk (s := .int .i64) (x := most) b1 rfl (cnd_dec.2 ⟨fun hge => ldA_blk (s := .int .i64) (x := most) b1 rfl (let_to ?_), fun hlt => ?_⟩))
      · rw [wrap_u64 (by omega) (by omega)]
        exact ⟨by rw [decide_eq_true (show 0 ≤ most from hge), Bool.true_and], q.ext e1, rfl⟩
      · exact ⟨by rw [decide_eq_false (show ¬ 0 ≤ most from hlt), Bool.false_and], q.ext e1, rfl⟩
    exact hc
  · subst hm
    have on : Only p h h3 := ⟨Nat.le_trans e1.size o3.size, fun i hi hp => (o3.get i (by have := e1.size; omega) hp).trans (e1.get i hi)⟩
    have hq : (tk (fun n => decide (0 ≤ most) && decide ((n : Int) ≤ most)) l e).1 < 18446744073709551616 ∧ (tk (fun n => decide (0 ≤ most) && decide ((n : Int) ≤ most)) l e).2.1.length ≤ l.length := by
      unfold tk
      (repeat' split) <;> simp <;> omega
    unfold tx at hK
    simp only at hK
    generalize tk (fun n => decide (0 ≤ most) && decide ((n : Int) ≤ most)) l e = w at hK q3 hq ⊢
    obtain ⟨n, l', e'⟩ := w
    simp only at hK q3 hq ⊢
    rw [Jn_eq]
    have hlen := q3.r.len
    have sz3 := q3.b.lt
    refine cnd_no rfl (ldA_blk (s := .int .i64) (i := 1) (x := e') q3.b rfl ?_)
    unfold J1_code_Reader_Text
    refine cnd_bne.2 ⟨fun hne => ?_, fun he => ?_⟩
    · rw [if_pos hne] at hK
      exact hK _ s' h3 (by simp [bts]) q3 on
    · rw [if_neg (by simpa using he)] at hK
      refine ldA_blk (s := .sl) (x := s') q3.b rfl (let_to ?_)
      rw [wrap_u64 (by omega) (by omega), hlen]
      refine cnd_dec.2 ⟨fun hgt => ⟨rfl, set_to q3.b (i := 1) (by simp) fun h4 b4 u4 _ z4 => ?_⟩, fun hle => ?_⟩
      · rw [if_pos (by omega)] at hK
        refine hK _ s' h4 (by simp [bts]) ⟨by simpa using b4, q3.r.only u4 q3.ap, q3.ap, q3.by_, q3.lt⟩ ⟨Nat.le_trans on.size u4.size, fun i hi hp => (u4.get i (by have := on.size; omega) hp).trans (on.get i hi hp)⟩
      · rw [if_neg (by omega)] at hK
        have hcap := q3.r.cap
        refine ldA_blk (s := .sl) (x := s') q3.b rfl (slc_to (n := n) rfl (by omega) (btS_row q3.r q3.by_ rfl (by omega) fun t ht => ?_))
        refine ldA_blk (s := .sl) (x := s') q3.b rfl (slc_drop q3.r rfl (by omega) fun t2 rt ht2 => ⟨rfl, set_to q3.b (i := 0) (by simp) fun h4 b4 u4 k4 z4 => ?_⟩)
        have hap : ∀ a, t2.a = some a → a.block ≠ p := fun a ha => by obtain ⟨b, hb, e⟩ := ht2 a ha; rw [e]; exact q3.ap b hb
        subst he
        refine hK t t2 h4 ht ⟨by simpa using b4, rt.only u4 hap, hap, q3.by_.drop _, fun a ha => by obtain ⟨b, hb, e⟩ := ht2 a ha; rw [e]; exact q3.lt b hb⟩ ⟨Nat.le_trans on.size u4.size, fun i hi hp => (u4.get i (by have := on.size; omega) hp).trans (on.get i hi hp)⟩
end Go.Proofs.YtojihngfbodeoaaF
