/- Chapter 11: what the functions of hits, and of the document's hits, answer. No condition. -/
import Derived.Test.YtpfhojnhipbhgaaLayHit
import Derived.Test.YtpfhojnhipbhgaaSortPure
namespace Go.Proofs.YtpfhojnhipbhgaaF
open Go Go.Proofs.YtpfhojnhipbhgaaK
set_option linter.unusedSimpArgs false
set_option linter.unusedVariables false

abbrev HT : List At := [.int .u64, .int .i64]
theorem encHT : Enc (vsA HT) 2 := encA rfl
instance : Inhabited (StA HT) := ⟨(0, 0, ())⟩
abbrev hId (x : StA HT) : Int := x.1
abbrev hDi (x : StA HT) : Int := x.2.1
abbrev RH := IsRow (vsA HT) 2
def hlt (x y : StA HT) : Bool := decide (hDi x < hDi y) || (decide (hDi x = hDi y) && decide (hId x < hId y))
def cmpI (x y : Int) : Int := if x < y then -1 else if x > y then 1 else 0
def hcmp (x y : StA HT) : Int := if cmpI (hDi x) (hDi y) ≠ 0 then cmpI (hDi x) (hDi y) else cmpI (hId x) (hId y)
theorem hit_ext {x y : StA HT} (h1 : hId x = hId y) (h2 : hDi x = hDi y) : x = y := by
  obtain ⟨a, b, ⟨⟩⟩ := x
  obtain ⟨c, d, ⟨⟩⟩ := y
  have h1 : a = c := h1
  have h2 : b = d := h2
  rw [h1, h2]
theorem hlt_iff {x y : StA HT} : hlt x y = true ↔ hDi x < hDi y ∨ hDi x = hDi y ∧ hId x < hId y := by unfold hlt; simp
theorem hlt_no {x y : StA HT} : hlt x y = false ↔ hDi y < hDi x ∨ hDi x = hDi y ∧ hId y ≤ hId x := by
  rw [Bool.eq_false_iff, Ne, hlt_iff]; omega
theorem hcmp_lt {x y : StA HT} : hcmp x y < 0 ↔ hlt x y = true := by
  rw [hlt_iff]; unfold hcmp cmpI
  (repeat' split) <;> omega
theorem hltOk : LtOk hlt := by
  refine ⟨fun x y h => ?_, fun x y z h1 h2 => ?_, fun x y h1 h2 => ?_⟩
  · rw [hlt_iff] at h; rw [hlt_no]; omega
  · rw [hlt_no] at *; omega
  · rw [hlt_no] at *; exact hit_ext (by omega) (by omega)
theorem hltOf (x y : StA HT) : Go.Proofs.ltOf hcmp x y = hlt x y := by
  unfold Go.Proofs.ltOf
  by_cases h : hlt x y = true
  · rw [h, decide_eq_true (hcmp_lt.2 h)]
  · rw [Bool.not_eq_true] at h
    rw [h, decide_eq_false fun hn => by rw [hcmp_lt.1 hn] at h; cases h]
theorem hSWO : Go.Sort.SWO (Go.Proofs.ltOf hcmp) where
  irrefl x := by rw [hltOf, hlt_no]; omega
  trans x y z h1 h2 := by rw [hltOf, hlt_iff] at *; omega
  ntrans x y z h1 h2 := by rw [hltOf, hlt_no] at *; omega

theorem c_Cmp_int {x y : Int} {h : Hp} {K : Int → Hp → Prop} (hK : K (cmpI x y) h) : C_cmp_Compare_int x y h K := by
  have hn : ∀ {x : Int} {h : Hp} {K : Bool → Hp → Prop}, K false h → C_cmp_isNaN_int x h K := fun {x h K} hk => F_cmp_isNaN_int_ok _ _ _ (by
    unfold F_cmp_isNaN_int
    rw [show (x != x) = false by simp]; exact hk)
  refine F_cmp_Compare_int_ok _ _ _ _ (hn (hn (cnd_no rfl (cnd_no rfl ?_))))
  unfold cmpI at hK
  refine cnd_dec.2 ⟨fun h1 => ?_, fun h1 => cnd_dec.2 ⟨fun h2 => ?_, fun h2 => ?_⟩⟩
  · rw [if_pos h1] at hK; exact hK
  · rw [if_neg h1, if_pos h2] at hK; exact hK
  · rw [if_neg h1, if_neg h2] at hK; exact hK
theorem c_Cmp_u64 {x y : Int} {h : Hp} {K : Int → Hp → Prop} (hK : K (cmpI x y) h) : C_cmp_Compare_uint64 x y h K := by
  have hn : ∀ {x : Int} {h : Hp} {K : Bool → Hp → Prop}, K false h → C_cmp_isNaN_uint64 x h K := fun {x h K} hk => F_cmp_isNaN_uint64_ok _ _ _ (by
    unfold F_cmp_isNaN_uint64
    rw [show (x != x) = false by simp]; exact hk)
  refine F_cmp_Compare_uint64_ok _ _ _ _ (hn (hn (cnd_no rfl (cnd_no rfl ?_))))
  unfold cmpI at hK
  refine cnd_dec.2 ⟨fun h1 => ?_, fun h1 => cnd_dec.2 ⟨fun h2 => ?_, fun h2 => ?_⟩⟩
  · rw [if_pos h1] at hK; exact hK
  · rw [if_neg h1, if_pos h2] at hK; exact hK
  · rw [if_neg h1, if_neg h2] at hK; exact hK
theorem encI64h : Enc (Go.Proofs.YtpfhojnhipbhgaaK.encI .i64) 1 := encI_ok _
theorem c_Or {a b : Int} {h : Hp} {s : Sl} {K : Int → Hp → Prop} (r : IsRow (Go.Proofs.YtpfhojnhipbhgaaK.encI .i64) 1 h s [a, b]) (hK : K (if a ≠ 0 then a else b) h) : C_cmp_Or_int s h K := by
  have hl := r.len
  simp at hl
  refine F_cmp_Or_int_ok _ _ _ ⟨3, ?_⟩
  refine Lp.next (cnd_dec.2 ⟨fun _ => ld_int0 (i := 0) (x := a) r (by omega) rfl (cnd_bne.2 ⟨fun hne => ?_, fun he => let_to ?_⟩), fun hn => by simp only at hn; omega⟩)
  · rw [if_pos hne] at hK; exact hK
  · rw [if_neg (fun h => h he)] at hK
    rw [wrap_i64 (by dsimp only; omega) (by dsimp only; omega)]
    refine Lp.next (cnd_dec.2 ⟨fun _ => ld_int0 (i := 1) (x := b) r (by omega) rfl (cnd_bne.2 ⟨fun hne => ?_, fun he => let_to ?_⟩), fun hn => by simp only at hn; omega⟩)
    · exact hK
    · rw [wrap_i64 (by dsimp only; omega) (by dsimp only; omega)]
      subst he
      exact Lp.next (cnd_dec.2 ⟨fun hn => by simp only at hn; omega, fun _ => hK⟩)
theorem c_hCmp {x y : StA HT} {h : Hp} {K : Int → Hp → Prop} (hK : ∀ h', Ext h h' → K (hcmp x y) h') : C_hits_Cmp (hId x) (hDi x) (hId y) (hDi y) h K := by
  refine F_hits_Cmp_ok _ _ _ _ _ _ (push_to fun h1 b1 e1 z1 => let_to (push_to fun h2 b2 e2 z2 => let_to ?_))
  have c1 := b1.ext e2
  refine ldA_blk (s := .int .i64) (i := 1) (x := hDi x) c1 rfl (ldA_blk (s := .int .i64) (i := 1) (x := hDi y) b2 rfl (c_Cmp_int ⟨Ext.refl _, ldA_blk (s := .int .u64) (x := hId x) c1 rfl (ldA_blk (s := .int .u64) (x := hId y) b2 rfl (c_Cmp_u64 (push_to fun h3 b3 e3 z3 => let_to ?_)))⟩))
  exact c_Or (Blk.row encI64h b3 (l := [cmpI (hDi x) (hDi y), cmpI (hId x) (hId y)]) (cap := 2) (Nat.le_refl _) rfl) (hK _ (e1.trans (e2.trans e3)))
theorem c_hLess {x y : StA HT} {h : Hp} {K : Bool → Hp → Prop} (hK : ∀ h', Ext h h' → K (hlt x y) h') : C_ref11_Less (hId x) (hDi x) (hId y) (hDi y) h K := by
  refine F_ref11_Less_ok _ _ _ _ _ _ (push_to fun h1 b1 e1 z1 => let_to (push_to fun h2 b2 e2 z2 => let_to ?_))
  have c1 := b1.ext e2
  have hk := hK _ (e1.trans e2)
  unfold hlt at hk
  refine ldA_blk (s := .int .i64) (i := 1) (x := hDi x) c1 rfl (ldA_blk (s := .int .i64) (i := 1) (x := hDi y) b2 rfl (cnd_dec.2 ⟨fun hl => ?_, fun hl => ldA_blk (s := .int .i64) (i := 1) (x := hDi x) c1 rfl (ldA_blk (s := .int .i64) (i := 1) (x := hDi y) b2 rfl (cnd_beq.2 ⟨fun he => ?_, fun he => ?_⟩))⟩))
  · rw [decide_eq_true hl, Bool.true_or] at hk; exact hk
  · rw [decide_eq_false hl, Bool.false_or, decide_eq_true he, Bool.true_and] at hk
    exact ldA_blk (s := .int .u64) (x := hId x) c1 rfl (ldA_blk (s := .int .u64) (x := hId y) b2 rfl hk)
  · rw [decide_eq_false hl, Bool.false_or, decide_eq_false he, Bool.false_and] at hk; exact hk

theorem c_hClone {h : Hp} {s : Sl} {l : List (StA HT)} {K : Sl → Hp → Prop} (r : RH h s l) (hb : l.length * 16 ≤ 140737488355328) (hK : ∀ s' h', OwnRow (vsA HT) 2 h.size h' s' l → Ext h h' → K s' h') : C_slices_Clone_api_Hit_api_Hit s h K :=
  F_slices_Clone_api_Hit_api_Hit_ok _ _ _ (clone_to encHT (by decide) r hb (by decide) rfl hK)
/-- Sorted: the one rising row of just these. -/
def srt (l : List (StA HT)) : List (StA HT) := l.foldr (ins hlt) []
theorem srt_perm : ∀ l : List (StA HT), (srt l).Perm l
  | [] => List.Perm.refl _
  | x :: l => (ins_perm hlt x _).trans ((srt_perm l).cons x)
theorem srt_srt : ∀ l : List (StA HT), Srt hlt (srt l)
  | [] => List.Pairwise.nil
  | x :: l => ins_srt hltOk x (srt_srt l)
theorem srt_eq {l m : List (StA HT)} (p : m.Perm l) (s : Srt hlt m) : m = srt l := srt_uniq hltOk (p.trans (srt_perm l).symm) s (srt_srt l)
theorem srt_cong {l m : List (StA HT)} (p : m.Perm l) : srt m = srt l := srt_eq ((srt_perm m).trans p) (srt_srt m)
theorem srt_len (l : List (StA HT)) : (srt l).length = l.length := (srt_perm l).length_eq
theorem c_hSort {h : Hp} {s : Sl} {l : List (StA HT)} {K : Sl → Hp → Prop} (r : RH h s l) (hb : l.length * 16 ≤ 140737488355328) (hK : ∀ s' h', OwnRow (vsA HT) 2 h.size h' s' (srt l) → Ext h h' → K s' h') : C_hits_Sort s h K := by
  refine F_hits_Sort_ok _ _ _ (c_hClone r hb fun s1 h1 o1 e1 => ?_)
  refine c_SortFunc_api_Hit_api_Hit encHT (cf := hcmp) hSWO (by kernel_rfl) (fun x y h K hk => c_hCmp (x := x) (y := y) hk) o1 (by omega) fun l' h2 p hs o2 u2 => ?_
  have e : l' = srt l := srt_eq p (srt_of fun i j x y hij hx hy => by
    have := hs i j x y hij hx hy
    rw [hcmp_lt] at this; simpa using this)
  subst e
  refine hK s1 h2 o2 ?_
  have := (e1.belOf (Nat.le_refl _)).trans (u2.bel (B := h.size) e1.size o1.above)
  exact this.ext
/-- The document's put. -/
theorem c_hPut {h : Hp} {s : Sl} {l : List (StA HT)} {x : StA HT} {K : Sl → Hp → Prop} (r : RH h s l) (hb : (l.length + 1) * 16 ≤ 140737488355328) (hK : ∀ s' h', OwnRow (vsA HT) 2 h.size h' s' (ins hlt x l) → Ext h h' → K s' h') : C_ref11_Put s (hId x) (hDi x) h K := by
  have hls := r.len
  refine F_ref11_Put_ok _ _ _ _ _ (push_to fun h1 b1 e1 z1 => let_to ?_)
  rw [Jn_eq]
  refine Lp.inv (fun st => ∃ (k : Nat) (out : List (StA HT)), st.1.2.2.1 = (k : Int) ∧ k ≤ l.length ∧ OwnRow (vsA HT) 2 h1.size st.2 st.1.1 out ∧ out.length ≤ k + 1 ∧
    ((st.1.2.1 = false ∧ out.length ≤ k ∧ ins hlt x l = out ++ ins hlt x (l.drop k)) ∨ (st.1.2.1 = true ∧ ins hlt x l = out ++ l.drop k)) ∧ Bel h1.size h1 st.2) (fun st => l.length - st.1.2.2.1.toNat) ?_
    ⟨0, [], rfl, by omega, OwnRow.nil _ _ _ _, by simp, .inl ⟨rfl, by simp, by simp⟩, Bel.refl _ _⟩
  rintro ⟨⟨sO, dn, i, ⟨⟩⟩, g⟩ R ⟨k, out, rfl, hk, oO, hol, hst, bl⟩ hR
  simp only at hk oO hol hst bl
  have hsz := bl.size
  have x1 : Ext h g := (e1.bel.trans (bl.mono e1.size)).ext
  have c1 : Blk g h.size #[.int .u64 (hId x), .int .i64 (hDi x)] := b1.bel bl (by omega)
  have rg := r.ext x1
  unfold L1_ref11_Put
  dsimp only
  rw [Jn_eq]
  refine cnd_dec.2 ⟨fun hlt' => ?_, fun hge => ?_⟩
  · have hkl : k < l.length := by omega
    have hx : l[k]? = some l[k] := List.getElem?_eq_getElem hkl
    -- what is appended behind
    have tail : ∀ (sO' : Sl) (d : Bool) (out' : List (StA HT)) (g' : Hp), OwnRow (vsA HT) 2 h1.size g' sO' out' → out'.length ≤ k + 1 → Bel h1.size h1 g' →
        ((d = false ∧ out'.length ≤ k ∧ ins hlt x l = out' ++ [l[k]] ++ ins hlt x (l.drop (k + 1))) ∨ (d = true ∧ ins hlt x l = out' ++ [l[k]] ++ l.drop (k + 1))) → J2_ref11_Put s ((sO, dn, (k : Int), ()), g) R (sO', d, ()) g' := by
      intro sO' d out' g' oO' hl' bl' hst'
      have hsz' := bl'.size
      have x2 : Ext h g' := (e1.bel.trans (bl'.mono e1.size)).ext
      unfold J2_ref11_Put
      dsimp only
      refine ld_row (i := (k : Int)) (x := l[k]) (r.ext x2) (by omega) hx fun a ha hc => ldA_row0 hc rfl (ldA_row hc rfl ?_)
      refine app1 (x := l[k]) encHT (by decide) oO' hsz' (by omega) (by decide) rfl rfl fun s2 g2 o2 u2 b2 n2 => let_to ?_
      rw [wrap_i64 (by omega) (by omega)]
      refine hR _ ⟨k + 1, _, by simp, by omega, o2, by simp; omega, ?_, bl'.trans b2⟩ (by simp only; omega)
      rcases hst' with ⟨h1, h2, h3⟩ | ⟨h1, h2⟩
      · exact .inl ⟨h1, by simp; omega, h3⟩
      · exact .inr ⟨h1, h2⟩
    rw [Jn_eq]
    rcases hst with ⟨rfl, hol2, hin⟩ | ⟨rfl, hin⟩
    · refine cnd_yes rfl (ldA_blk (s := .int .u64) (x := hId x) c1 rfl (ldA_blk (s := .int .i64) (i := 1) (x := hDi x) c1 rfl ?_))
      refine ld_row (i := (k : Int)) (x := l[k]) rg (by omega) hx fun a ha hc => ldA_row0 hc rfl (ldA_row hc rfl ?_)
      have hstep := ins_step hx hin
      refine c_hLess (x := x) (y := l[k]) fun g2 e2 => ?_
      have bl2 : Bel h1.size h1 g2 := bl.extR e2 hsz
      have sz2 := e2.size
      unfold J3_ref11_Put
      dsimp only
      refine cnd_if (fun hl => ?_) fun hn => ?_
      · have c2 := c1.ext e2
        refine ldA_blk (s := .int .u64) (x := hId x) c2 rfl (ldA_blk (s := .int .i64) (i := 1) (x := hDi x) c2 rfl ?_)
        refine app1 (x := x) encHT (by decide) (oO.ext e2) (by omega) (by omega) (by decide) rfl rfl fun s3 g3 o3 u3 b3 n3 => ?_
        exact tail s3 true _ g3 o3 (by simp; omega) (bl2.trans b3) (.inr ⟨rfl, hstep.1 hl⟩)
      · exact tail sO false out g2 (oO.ext e2) (by omega) bl2 (.inl ⟨rfl, hol2, hstep.2 hn⟩)
    · refine cnd_no rfl ?_
      unfold J3_ref11_Put
      dsimp only
      refine cnd_no rfl (tail sO true out g oO hol bl (.inr ⟨rfl, ?_⟩))
      rw [hin, List.drop_eq_getElem_cons hkl]; simp
  · obtain rfl : k = l.length := by omega
    rw [List.drop_length] at hst
    unfold J1_ref11_Put
    dsimp only
    rcases hst with ⟨rfl, hol2, hin⟩ | ⟨rfl, hin⟩
    · refine cnd_yes rfl (ldA_blk (s := .int .u64) (x := hId x) c1 rfl (ldA_blk (s := .int .i64) (i := 1) (x := hDi x) c1 rfl ?_))
      refine app1 (x := x) encHT (by decide) oO hsz (by omega) (by decide) rfl rfl fun s3 g3 o3 u3 b3 n3 => ?_
      rw [hin] at hK
      refine hK s3 g3 (o3.weaken e1.size) ((e1.bel.trans ((bl.trans b3).mono e1.size)).ext)
    · refine cnd_no rfl ?_
      rw [List.append_nil] at hin
      rw [hin] at hK
      exact hK _ g (oO.weaken e1.size) x1
theorem c_rSort {h : Hp} {s : Sl} {l : List (StA HT)} {K : Sl → Hp → Prop} (r : RH h s l) (hb : (l.length + 1) * 16 ≤ 140737488355328) (hK : ∀ s' h', OwnRow (vsA HT) 2 h.size h' s' (srt l) → Ext h h' → K s' h') : C_ref11_Sort s h K := by
  have hls := r.len
  refine F_ref11_Sort_ok _ _ _ ?_
  refine Lp.inv (fun st => ∃ k : Nat, st.1.2.1 = (k : Int) ∧ k ≤ l.length ∧ OwnRow (vsA HT) 2 h.size st.2 st.1.1 (srt (l.take k)) ∧ Ext h st.2) (fun st => l.length - st.1.2.1.toNat) ?_ ⟨0, rfl, by omega, by simpa [srt] using OwnRow.nil _ _ _ _, Ext.refl _⟩
  rintro ⟨⟨sO, i, ⟨⟩⟩, g⟩ R ⟨k, rfl, hk, oO, x1⟩ hR
  simp only at hk oO x1
  unfold L1_ref11_Sort
  dsimp only
  refine cnd_dec.2 ⟨fun hlt' => ?_, fun hge => ?_⟩
  · have hkl : k < l.length := by omega
    have hx : l[k]? = some l[k] := List.getElem?_eq_getElem hkl
    refine ld_row (i := (k : Int)) (x := l[k]) (r.ext x1) (by omega) hx fun a ha hc => ldA_row0 hc rfl (ldA_row hc rfl ?_)
    refine c_hPut (s := sO) (x := l[k]) oO.row (by rw [srt_len, List.length_take]; omega) fun s2 g2 o2 e2 => let_to ?_
    rw [wrap_i64 (by omega) (by omega)]
    have e : ins hlt l[k] (srt (l.take k)) = srt (l.take (k + 1)) := by
      refine srt_eq ((ins_perm hlt _ _).trans (((srt_perm _).cons _).trans ?_)) (ins_srt hltOk _ (srt_srt _))
      rw [List.take_add_one, hx]
      exact (List.perm_append_singleton _ _).symm
    rw [e] at o2
    exact hR _ ⟨k + 1, by simp, by omega, o2.weaken x1.size, x1.trans e2⟩ (by simp only; omega)
  · obtain rfl : k = l.length := by omega
    rw [List.take_length] at oO
    exact hK sO g oO x1
end Go.Proofs.YtpfhojnhipbhgaaF
