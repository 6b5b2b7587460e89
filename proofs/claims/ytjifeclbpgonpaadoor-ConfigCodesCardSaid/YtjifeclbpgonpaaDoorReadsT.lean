/- Chapter 3: the reference's reading of a part. No condition. -/
import Derived.Test.YtjifeclbpgonpaaDoorReadsR
import Derived.Test.YtjifeclbpgonpaaDoorK18
namespace Go.Proofs.YtjifeclbpgonpaaDoorF
open Go Go.Proofs.YtjifeclbpgonpaaDoorK
set_option linter.unusedSimpArgs false
set_option linter.unusedVariables false

/-- A part and what is left are told. -/
def outF (p11 p6 p8 : Addr) (s : Sl) (e : Int) (g : Hp) (K : Int → Int → Int → Bool → ByteArray → Int → Int → Int → Sl → Int → Hp → Prop) : Prop :=
ldA (.int .i64) g p11 fun (t85 : Int) =>
ldA (.int .u64) g (Addr.add p11 1) fun (t86 : Int) =>
ldA (.int .i64) g (Addr.add p11 2) fun (t87 : Int) =>
ldA .bool g (Addr.add p11 3) fun (t88 : Bool) =>
ldA .str g (Addr.add p11 4) fun (t89 : ByteArray) =>
ldA (.int .i64) g (Addr.add p11 5) fun (t90 : Int) =>
ldA (.int .i64) g (Addr.add p11 6) fun (t91 : Int) =>
ldA (.int .i64) g (Addr.add p11 7) fun (t92 : Int) =>
stC g p6 (
Let (hset g p6 (.int .i64 t85)) fun (h93 : Hp) =>
stC h93 (Addr.add p6 1) (
Let (hset h93 (Addr.add p6 1) (.int .u64 t86)) fun (h94 : Hp) =>
stC h94 (Addr.add p6 2) (
Let (hset h94 (Addr.add p6 2) (.int .i64 t87)) fun (h95 : Hp) =>
stC h95 (Addr.add p6 3) (
Let (hset h95 (Addr.add p6 3) (.bool t88)) fun (h96 : Hp) =>
stC h96 (Addr.add p6 4) (
Let (hset h96 (Addr.add p6 4) (.string t89)) fun (h97 : Hp) =>
stC h97 (Addr.add p6 5) (
Let (hset h97 (Addr.add p6 5) (.int .i64 t90)) fun (h98 : Hp) =>
stC h98 (Addr.add p6 6) (
Let (hset h98 (Addr.add p6 6) (.int .i64 t91)) fun (h99 : Hp) =>
stC h99 (Addr.add p6 7) (
Let (hset h99 (Addr.add p6 7) (.int .i64 t92)) fun (h100 : Hp) =>
stC h100 p8 (
Let (hset h100 p8 (.slice s.a s.len s.cap)) fun (h101 : Hp) =>
stC h101 (Addr.add p8 1) (
Let (hset h101 (Addr.add p8 1) (.int .i64 e)) fun (h102 : Hp) =>
ldA (.int .i64) h102 p6 fun (r103 : Int) =>
ldA (.int .u64) h102 (Addr.add p6 1) fun (r104 : Int) =>
ldA (.int .i64) h102 (Addr.add p6 2) fun (r105 : Int) =>
ldA .bool h102 (Addr.add p6 3) fun (r106 : Bool) =>
ldA .str h102 (Addr.add p6 4) fun (r107 : ByteArray) =>
ldA (.int .i64) h102 (Addr.add p6 5) fun (r108 : Int) =>
ldA (.int .i64) h102 (Addr.add p6 6) fun (r109 : Int) =>
ldA (.int .i64) h102 (Addr.add p6 7) fun (r110 : Int) =>
ldA .sl h102 p8 fun (r111 : Sl) =>
ldA (.int .i64) h102 (Addr.add p8 1) fun (r112 : Int) =>
K r103 r104 r105 r106 r107 r108 r109 r110 r111 r112 h102))))))))))
theorem out_to {g : Hp} {a b c : Nat} {k n i : Int} {f : Bool} {t : ByteArray} {s : Sl} {e : Int} {K : Int → Int → Int → Bool → ByteArray → Int → Int → Int → Sl → Int → Hp → Prop} (b11 : Blk g a #[.int .i64 k, .int .u64 n, .int .i64 i, .bool f, .string t, .int .i64 0, .int .i64 0, .int .i64 0]) (b6 : Blk g b #[.int .i64 0, .int .u64 0, .int .i64 0, .bool false, .string (ByteArray.mk #[]), .int .i64 0, .int .i64 0, .int .i64 0]) (b8 : Blk g c #[.slice none 0 0, .int .i64 0]) (hne : c ≠ b)
    (hK : ∀ g1 g', Only b g g1 → Only c g1 g' → K k n i f t 0 0 0 s e g') : outF ⟨a, 0, none⟩ ⟨b, 0, none⟩ ⟨c, 0, none⟩ s e g K := by
  unfold outF
  refine ldA_blk (s := .int .i64) (i := 0) (x := k) b11 rfl (ldA_blk (s := .int .u64) (i := 1) (x := n) b11 rfl (ldA_blk (s := .int .i64) (i := 2) (x := i) b11 rfl (ldA_blk (s := .bool) (i := 3) (x := f) b11 rfl (ldA_blk (s := .str) (i := 4) (x := t) b11 rfl (ldA_blk (s := .int .i64) (i := 5) (x := 0) b11 rfl (ldA_blk (s := .int .i64) (i := 6) (x := 0) b11 rfl (ldA_blk (s := .int .i64) (i := 7) (x := 0) b11 rfl (?_))))))))
  refine stores_blk (vs := [.int .i64 k, .int .u64 n, .int .i64 i, .bool f, .string t, .int .i64 0, .int .i64 0, .int .i64 0]) b6 rfl fun g1 b7 u7 _ z7 => ?_
  simp only [List.take_zero, List.nil_append] at b7
  refine stores_blk (vs := [.slice s.a s.len s.cap, .int .i64 e]) (b8.only u7 hne) rfl fun g2 b9 u9 _ z9 => ?_
  simp only [List.take_zero, List.nil_append] at b9
  have c7 := b7.only u9 (fun h => hne h.symm)
  exact ldA_blk (s := .int .i64) (i := 0) (x := k) c7 rfl (ldA_blk (s := .int .u64) (i := 1) (x := n) c7 rfl (ldA_blk (s := .int .i64) (i := 2) (x := i) c7 rfl (ldA_blk (s := .bool) (i := 3) (x := f) c7 rfl (ldA_blk (s := .str) (i := 4) (x := t) c7 rfl (ldA_blk (s := .int .i64) (i := 5) (x := 0) c7 rfl (ldA_blk (s := .int .i64) (i := 6) (x := 0) c7 rfl (ldA_blk (s := .int .i64) (i := 7) (x := 0) c7 rfl (ldA_blk (s := .sl) (i := 0) (x := s) b9 rfl (ldA_blk (s := .int .i64) (i := 1) (x := e) b9 rfl (hK g1 g2 u7 u9))))))))))
/-- What a reading of a part tells: its number, its whole number, its flag, its text; what is left, an error's number. -/
def tP (k N lo hi mo : Int) (l : List Int) (e : Int) : Int × Int × Bool × List Int × List Int × Int :=
  if k = 0 then ((tk (fun n => decide ((n : Int) ≤ N)) l e).1, 0, false, [], (tk (fun n => decide ((n : Int) ≤ N)) l e).2)
  else if k = 1 then (0, sgn (tk (inI lo hi) l e).1, false, [], (tk (inI lo hi) l e).2)
  else if k = 2 then (0, 0, ((tk (fun n => decide ((n : Int) ≤ 1)) l e).1 : Int) == 1, [], (tk (fun n => decide ((n : Int) ≤ 1)) l e).2)
  else (0, 0, false, tx mo l e)
theorem tk_err {may : Nat → Bool} {l : List Int} {e : Int} (he : e ≠ 0) : tk may l e = (0, l, e) := by unfold tk; rw [if_pos he]
theorem tk_num {may : Nat → Bool} {l : List Int} (hn : (numb l).2.2 ≠ 0) : tk may l 0 = (0, l, ((numb l).2.2 : Int)) := by unfold tk; rw [if_neg (by simp), if_pos hn]
theorem tk_no {may : Nat → Bool} {l : List Int} (hn : (numb l).2.2 = 0) (hm : may (numb l).1 = false) : tk may l 0 = (0, l, 14) := by unfold tk; rw [if_neg (by simp), if_neg (by simpa using hn), if_neg (by simp [hm])]
theorem tk_yes {may : Nat → Bool} {l : List Int} (hn : (numb l).2.2 = 0) (hm : may (numb l).1 = true) : tk may l 0 = ((numb l).1, l.drop (numb l).2.1, 0) := by unfold tk; rw [if_neg (by simp), if_neg (by simpa using hn), if_pos hm]
theorem sgn0 : sgn 0 = 0 := rfl
theorem tP_err {k N lo hi mo : Int} {l : List Int} {e : Int} (he : e ≠ 0) : tP k N lo hi mo l e = (0, 0, false, [], l, e) := by
  unfold tP tx
  simp only [tk_err he]
  (repeat' split) <;> first | rfl | simp_all [sgn0]
theorem tP_num {k N lo hi mo : Int} {l : List Int} (hn : (numb l).2.2 ≠ 0) : tP k N lo hi mo l 0 = (0, 0, false, [], l, ((numb l).2.2 : Int)) := by
  unfold tP tx
  simp only [tk_num hn]
  (repeat' split) <;> first | rfl | simp_all [sgn0]
theorem r_Take {k N I lo hi mo e : Int} {F : Bool} {T : ByteArray} {h0 h : Hp} {s : Sl} {l : List Int} {K : Int → Int → Int → Bool → ByteArray → Int → Int → Int → Sl → Int → Hp → Prop} (r : R8 h0 s l) (x0 : Ext h0 h) (hb : By l) (hm : l.length ≤ 140737488355328) (hmo : I64 mo) (hel : e ≠ 0 → l = [])
    (hK : ∀ (n i : Int) (f : Bool) (t : ByteArray) (l' : List Int) (e' : Int) (s' : Sl) (h' : Hp), tP k N lo hi mo l e = (n, i, f, bts t, l', e') → Ext h h' → R8 h0 s' (if e' ≠ 0 then [] else l') → (∀ a, s'.a = some a → ∃ b, s.a = some b ∧ a.block = b.block) → K k n i f t 0 0 0 s' e' h') :
    C_ref03_Take s e k N I F T lo hi mo h K := by
  unfold I64 at hmo
  have nlt := numb_lt hb
  refine F_ref03_Take_ok _ _ _ _ _ _ _ _ _ _ _ _ (push_to fun g1 b1 e1 z1 => let_to (push_to fun g2 b2 e2 z2 => let_to (push_to fun g3 b3 e3 z3 => let_to (push_to fun g4 b4 e4 z4 => let_to (ldA_blk (s := .int .i64) (x := k) (b2.ext (e3.trans e4)) rfl (push_to fun g5 b5 e5 z5 => let_to ?_))))))
  refine stores_blk (vs := [.int .i64 k, .int .u64 0, .int .i64 0, .bool false, .string (ByteArray.mk #[]), .int .i64 0, .int .i64 0, .int .i64 0]) b5 rfl fun g6 b6 u6 _ z6 => ?_
  simp only [List.take_zero, List.nil_append] at b6
  have x6 : Ext h g6 := (e1.trans (e2.trans (e3.trans (e4.trans e5)))).only_new u6 (by omega)
  have c1 := (b1.ext (e2.trans (e3.trans (e4.trans e5)))).only u6 (by omega)
  have c2 := (b2.ext (e3.trans (e4.trans e5))).only u6 (by omega)
  have c3 := (b3.ext (e4.trans e5)).only u6 (by omega)
  have c4 := (b4.ext e5).only u6 (by omega)
  have nilr : R8 h0 ⟨none, 0, 0⟩ [] := IsRow.nil _ _ _ _
  have fin : ∀ (n i : Int) (f : Bool) (t : ByteArray) (s' : Sl) (e' : Int) (g : Hp), Only g4.size g6 g → Blk g g4.size #[.int .i64 k, .int .u64 n, .int .i64 i, .bool f, .string t, .int .i64 0, .int .i64 0, .int .i64 0] → (∀ h', Ext h h' → K k n i f t 0 0 0 s' e' h') → outF ⟨g4.size, 0, none⟩ ⟨g2.size, 0, none⟩ ⟨g3.size, 0, none⟩ s' e' g K :=
    fun n i f t s' e' g u b hk => out_to b (c3.only u (by omega)) (c4.only u (by omega)) (by omega) fun q1 q2 w1 w2 => hk _ (((x6.only_new u (by omega)).only_new w1 (by omega)).only_new w2 (by omega))
  have nof : ∀ {l' : List Int} {e' : Int}, tP k N lo hi mo l e = (0, 0, false, [], l', e') → e' ≠ 0 → outF ⟨g4.size, 0, none⟩ ⟨g2.size, 0, none⟩ ⟨g3.size, 0, none⟩ ⟨none, 0, 0⟩ e' g6 K :=
    fun {l' e'} ht he => fin 0 0 false (ByteArray.mk #[]) _ e' g6 (Only.refl _ _) b6 fun h' x => hK 0 0 false (ByteArray.mk #[]) l' e' _ h' ht x (by rw [if_pos he]; exact nilr) (fun a ha => by cases ha)
  refine ldA_blk (s := .int .i64) (i := 1) (x := e) c1 rfl (cnd_bne.2 ⟨fun he => ?_, fun he => ?_⟩)
  · have hl := hel he
    subst hl
    refine ⟨[g2.size], by show g4.size ∉ [g2.size]; simp; omega, ?_⟩
    refine ldA_blk (s := .int .i64) (i := 0) (x := k) b6 rfl (ldA_blk (s := .int .u64) (i := 1) (x := 0) b6 rfl (ldA_blk (s := .int .i64) (i := 2) (x := 0) b6 rfl (ldA_blk (s := .bool) (i := 3) (x := false) b6 rfl (ldA_blk (s := .str) (i := 4) (x := (ByteArray.mk #[])) b6 rfl (ldA_blk (s := .int .i64) (i := 5) (x := 0) b6 rfl (ldA_blk (s := .int .i64) (i := 6) (x := 0) b6 rfl (ldA_blk (s := .int .i64) (i := 7) (x := 0) b6 rfl (?_))))))))
    refine ⟨by show h.size ∉ [g2.size]; simp; omega, ldA_blk (s := .sl) (i := 0) (x := s) c1 rfl (ldA_blk (s := .int .i64) (i := 1) (x := e) c1 rfl ?_)⟩
    refine stores_blk (vs := [.int .i64 k, .int .u64 0, .int .i64 0, .bool false, .string (ByteArray.mk #[]), .int .i64 0, .int .i64 0, .int .i64 0]) c3 rfl fun g7 b7 u7 _ z7 => ?_
    simp only [List.take_zero, List.nil_append] at b7
    refine ⟨u7.extS, ?_⟩
    refine stores_blk (vs := [.slice s.a s.len s.cap, .int .i64 e]) (c4.only u7 (by omega)) rfl fun g8 b8 u8 _ z8 => ?_
    simp only [List.take_zero, List.nil_append] at b8
    have c7 := b7.only u8 (by omega)
    refine ldA_blk (s := .int .i64) (i := 0) (x := k) c7 rfl (ldA_blk (s := .int .u64) (i := 1) (x := 0) c7 rfl (ldA_blk (s := .int .i64) (i := 2) (x := 0) c7 rfl (ldA_blk (s := .bool) (i := 3) (x := false) c7 rfl (ldA_blk (s := .str) (i := 4) (x := (ByteArray.mk #[])) c7 rfl (ldA_blk (s := .int .i64) (i := 5) (x := 0) c7 rfl (ldA_blk (s := .int .i64) (i := 6) (x := 0) c7 rfl (ldA_blk (s := .int .i64) (i := 7) (x := 0) c7 rfl (?_))))))))
    refine ldA_blk (s := .sl) (i := 0) (x := s) b8 rfl (ldA_blk (s := .int .i64) (i := 1) (x := e) b8 rfl ?_)
    exact hK 0 0 false (ByteArray.mk #[]) [] e s g8 (tP_err he) ((x6.only_new u7 (by omega)).only_new u8 (by omega)) (by rw [if_pos he]; exact r) (fun a ha => ⟨a, ha, rfl⟩)
  subst he
  refine ldA_blk (s := .sl) (i := 0) (x := s) c1 rfl (r_number r (x0.trans x6) hb hm (fun hne => ?_) fun hz t rt ht => ?_)
  · exact cnd_bne.2 ⟨fun _ => nof (tP_num hne) (by omega), fun h => (hne (by omega)).elim⟩
  refine cnd_no rfl ?_
  rw [Jn_eq]
  generalize hv : (numb l).1 = v at nlt
  have okf : ∀ (n i : Int) (f : Bool) (u : ByteArray) (l' : List Int) (s' : Sl) (g : Hp), Only g4.size g6 g → Blk g g4.size #[.int .i64 k, .int .u64 n, .int .i64 i, .bool f, .string u, .int .i64 0, .int .i64 0, .int .i64 0] → tP k N lo hi mo l 0 = (n, i, f, bts u, l', 0) → R8 h0 s' l' → (∀ a, s'.a = some a → ∃ b, t.a = some b ∧ a.block = b.block) → J1_ref03_Take K ⟨g2.size, 0, none⟩ ⟨g3.size, 0, none⟩ ⟨g4.size, 0, none⟩ (s', ()) g :=
    fun n i f u l' s' g o b htp hr hs => fin n i f u s' 0 g o b fun h' x => hK n i f u l' 0 s' h' htp x (by rw [if_neg (by simp)]; exact hr) fun a ha => by obtain ⟨b, hb, e⟩ := hs a ha; obtain ⟨d, hd, e2⟩ := ht b hb; exact ⟨d, hd, e.trans e2⟩
  have self : ∀ a, t.a = some a → ∃ b, t.a = some b ∧ a.block = b.block := fun a ha => ⟨a, ha, rfl⟩
  refine ldA_blk (s := .int .i64) (i := 0) (x := k) c2 rfl (cnd_beq.2 ⟨fun k0 => ?_, fun k0 => cnd_beq.2 ⟨fun k1 => ?_, fun k1 => cnd_beq.2 ⟨fun k2 => ?_, fun k2 => ?_⟩⟩⟩)
  · refine ldA_blk (s := .int .u64) (i := 1) (x := N) c2 rfl (cnd_dec.2 ⟨fun hgt => ?_, fun hle => ⟨rfl, set_to b6 (i := 1) (by simp) fun g7 b7 u7 _ z7 => ?_⟩⟩)
    · exact nof (l' := l) (e' := 14) (by unfold tP; rw [if_pos k0, tk_no hz (by simp; omega)]; rfl) (by decide)
    · refine okf v 0 false (ByteArray.mk #[]) _ t g7 u7 (by simpa using b7) ?_ rt self
      unfold tP; rw [if_pos k0, tk_yes hz (by simp; omega), hv]; rfl
  · refine ⟨by decide, let_to (let_to ?_)⟩
    rw [Jn_eq]
    have j2 : ∀ x : Int, x = sgn v → J2_ref03_Take K ⟨g1.size, 0, none⟩ ⟨g2.size, 0, none⟩ ⟨g3.size, 0, none⟩ ⟨g4.size, 0, none⟩ t (J1_ref03_Take K ⟨g2.size, 0, none⟩ ⟨g3.size, 0, none⟩ ⟨g4.size, 0, none⟩) (x, ()) g6 := by
      intro x hx
      unfold J2_ref03_Take
      dsimp only
      rw [Jn_eq]
      have j3 : ∀ b : Bool, (b = true ↔ ¬ (lo ≤ x ∧ x ≤ hi)) → J3_ref03_Take K ⟨g2.size, 0, none⟩ ⟨g3.size, 0, none⟩ ⟨g4.size, 0, none⟩ t (J1_ref03_Take K ⟨g2.size, 0, none⟩ ⟨g3.size, 0, none⟩ ⟨g4.size, 0, none⟩) (x, ()) (b, ()) g6 := by
        intro b hbb
        unfold J3_ref03_Take
        dsimp only
        refine cnd_if (fun h1 => ?_) fun h1 => ⟨rfl, set_to b6 (i := 2) (by simp) fun g7 b7 u7 _ z7 => ?_⟩
        · have hno := hbb.1 h1
          exact nof (l' := l) (e' := 14) (by unfold tP; rw [if_neg k0, if_pos k1, tk_no hz (by unfold inI; rw [hv, ← hx]; simp; omega)]; show (0, sgn 0, false, [], l, (14 : Int)) = _; rw [sgn0]) (by decide)
        · have hyes : lo ≤ x ∧ x ≤ hi := Classical.byContradiction fun h => by rw [hbb.2 h] at h1; cases h1
          refine okf 0 x false (ByteArray.mk #[]) _ t g7 u7 (by simpa using b7) ?_ rt self
          unfold tP; rw [if_neg k0, if_pos k1, tk_yes hz (by unfold inI; rw [hv, ← hx]; simp; exact hyes), hv, ← hx]; rfl
      refine ldA_blk (s := .int .i64) (i := 5) (x := lo) c2 rfl (cnd_dec.2 ⟨fun hlt => j3 true (by simp; omega), fun hge => ldA_blk (s := .int .i64) (i := 6) (x := hi) c2 rfl (j3 _ ?_)⟩)
      rw [decide_eq_true_iff]; omega
    have htd : Int.tdiv (v : Int) 2 = ((v / 2 : Nat) : Int) := rfl
    have htm : Int.tmod (v : Int) 2 = ((v % 2 : Nat) : Int) := rfl
    refine ⟨by decide, let_to (cnd_beq.2 ⟨fun hodd => ⟨by decide, let_to (let_to (let_to (let_to (j2 _ ?_))))⟩, fun heven => j2 _ ?_⟩)⟩
    · rw [htm] at hodd
      unfold sgn
      rw [htd, if_pos (by omega), wrap_u64 (by omega) (by omega), wrap_i64 (x := ((v / 2 : Nat) : Int)) (by omega) (by omega), wrap_i64 (x := (0 : Int) - ((v / 2 : Nat) : Int)) (by omega) (by omega), wrap_i64 (by omega) (by omega)]
      omega
    · rw [htm] at heven
      unfold sgn
      rw [htd, if_neg (by omega), wrap_u64 (by omega) (by omega), wrap_i64 (by omega) (by omega)]
  · refine cnd_dec.2 ⟨fun hgt => ?_, fun hle => ⟨rfl, set_to b6 (i := 3) (by simp) fun g7 b7 u7 _ z7 => ?_⟩⟩
    · exact nof (l' := l) (e' := 14) (by unfold tP; rw [if_neg k0, if_neg k1, if_pos k2, tk_no hz (by simp; omega)]; rfl) (by decide)
    · refine okf 0 0 ((v : Int) == 1) (ByteArray.mk #[]) _ t g7 u7 (by simpa using b7) ?_ rt self
      unfold tP; rw [if_neg k0, if_neg k1, if_pos k2, tk_yes hz (by simp; omega), hv]; rfl
  · rw [Jn_eq]
    have hlen := rt.len
    have hcap := rt.cap
    rw [List.length_drop] at hlen
    have j4 : ∀ b : Bool, (b = true ↔ ¬ (0 ≤ mo ∧ (v : Int) ≤ mo)) → J4_ref03_Take K ⟨g2.size, 0, none⟩ ⟨g3.size, 0, none⟩ ⟨g4.size, 0, none⟩ v t (J1_ref03_Take K ⟨g2.size, 0, none⟩ ⟨g3.size, 0, none⟩ ⟨g4.size, 0, none⟩) (b, ()) g6 := by
      intro b hbb
      unfold J4_ref03_Take
      dsimp only
      refine cnd_if (fun h1 => ?_) fun h1 => let_to ?_
      · have hno := hbb.1 h1
        exact nof (l' := l) (e' := 14) (by unfold tP tx; rw [if_neg k0, if_neg k1, if_neg k2, tk_no hz (by rw [hv]; simp; omega)]; rfl) (by decide)
      · have hyes : 0 ≤ mo ∧ (v : Int) ≤ mo := Classical.byContradiction fun h => by rw [hbb.2 h] at h1; cases h1
        have htk := tk_yes (may := fun n => decide (0 ≤ mo) && decide ((n : Int) ≤ mo)) hz (by rw [hv]; simp; exact hyes)
        rw [hv] at htk
        rw [wrap_u64 (by omega) (by omega)]
        refine cnd_dec.2 ⟨fun hlt => ?_, fun hge => ?_⟩
        · exact nof (l' := l.drop (numb l).2.1) (e' := 13) (by unfold tP tx; rw [if_neg k0, if_neg k1, if_neg k2, htk]; simp only; rw [if_neg (by simp), if_pos (by rw [List.length_drop]; omega)]) (by decide)
        · refine slc_to (n := v) rfl (by omega) (btS_row (rt.ext (x0.trans x6)) (hb.drop _) rfl (by rw [List.length_drop]; omega) fun u hu => ⟨rfl, set_to b6 (i := 4) (by simp) fun g7 b7 u7 _ z7 => ?_⟩)
          refine slc_drop rt (n := v) rfl (by rw [List.length_drop]; omega) fun t2 rt2 ht2 => ?_
          refine okf 0 0 false u _ t2 g7 u7 (by simpa using b7) ?_ rt2 ht2
          unfold tP tx; rw [if_neg k0, if_neg k1, if_neg k2, htk]; simp only; rw [if_neg (by simp), if_neg (by rw [List.length_drop]; omega), hu]
    refine ldA_blk (s := .int .i64) (i := 7) (x := mo) c2 rfl (cnd_dec.2 ⟨fun hneg => j4 true (by simp; omega), fun hnn => ldA_blk (s := .int .i64) (i := 7) (x := mo) c2 rfl (let_to (j4 _ ?_))⟩)
    rw [wrap_u64 (by omega) (by omega), decide_eq_true_iff]; omega
end Go.Proofs.YtjifeclbpgonpaaDoorF
