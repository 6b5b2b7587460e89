/- Chapter 3: writers, and the document's writing. No condition. -/
import Derived.Test.YtjifeclbpgonpaaDoorF
import Derived.Test.YtjifeclbpgonpaaDoorK16
namespace Go.Proofs.YtjifeclbpgonpaaDoorF
open Go Go.Proofs.YtjifeclbpgonpaaDoorK
set_option linter.unusedSimpArgs false
set_option linter.unusedVariables false

abbrev R8 := IsRow (encI .u8) 1
theorem enc8 : Enc (encI .u8) 1 := encI_ok _
/-- A number's bytes. -/
def vb (n : Nat) : List Int := if n < 128 then [(n : Int)] else ((n % 128 + 128 : Nat) : Int) :: vb (n / 128)
termination_by n
decreasing_by omega
theorem vb_small {n : Nat} (h : n < 128) : vb n = [(n : Int)] := by rw [vb, if_pos h]
theorem vb_big {n : Nat} (h : ¬ n < 128) : vb n = ((n % 128 + 128 : Nat) : Int) :: vb (n / 128) := by rw [vb, if_neg h]
theorem vb_len : ∀ (k n : Nat), n < 128 ^ k → 0 < k → (vb n).length ≤ k
  | 0, n, _, h => by omega
  | k + 1, n, hn, _ => by
    by_cases h : n < 128
    · rw [vb_small h]; simp
    · rw [vb_big h]
      have hk : 0 < k := by
        rcases Nat.eq_zero_or_pos k with e | e
        · subst e; simp at hn; omega
        · exact e
      have := vb_len k (n / 128) (by rw [Nat.pow_succ] at hn; exact Nat.div_lt_of_lt_mul (by rw [Nat.mul_comm]; exact hn)) hk
      simp only [List.length_cons]; omega
theorem vb_len10 {n : Nat} (h : n < 18446744073709551616) : (vb n).length ≤ 10 := vb_len 10 n (by omega) (by decide)
/-- An int as a number. -/
def zig (n : Int) : Nat := if n < 0 then (-(n + 1)).toNat * 2 + 1 else n.toNat * 2
def I64 (n : Int) : Prop := -9223372036854775808 ≤ n ∧ n ≤ 9223372036854775807
theorem zig_lt {n : Int} (h : I64 n) : zig n < 18446744073709551616 := by unfold zig; unfold I64 at h; split <;> omega
theorem wrap_u64_mod (n : Int) : IntKind.wrap .u64 n = n % 18446744073709551616 := by
  simp only [IntKind.wrap, IntKind.bits, IntKind.signed]
  simp

structure WQ (h : Hp) (p : Nat) (s : Sl) (l : List Int) : Prop where
  b : Blk h p #[.slice s.a s.len s.cap]
  o : OwnRow (encI .u8) 1 (p + 1) h s l
theorem WQ.apart {h : Hp} {p : Nat} {s : Sl} {l : List Int} (q : WQ h p s l) : ∀ a, s.a = some a → p ≠ a.block := fun a ha => by have := q.o.above a ha; omega
theorem WQ.ext {h h' : Hp} {p : Nat} {s : Sl} {l : List Int} (q : WQ h p s l) (e : Ext h h') : WQ h' p s l := ⟨q.b.ext e, q.o.ext e⟩
/-- What a writing step turns. -/
structure WS (p : Nat) (s : Sl) (h : Hp) (s' : Sl) (h' : Hp) : Prop where
  o : OnlyP p s h h'
  n : s'.a = s.a ∨ ∃ b, s'.a = some ⟨b, 0, none⟩ ∧ h.size ≤ b
theorem WS.refl (p : Nat) (s : Sl) (h : Hp) : WS p s h s h := ⟨OnlyP.refl _ _ _, .inl rfl⟩
theorem WS.trans {p : Nat} {s s' s'' : Sl} {h h' h'' : Hp} (x : WS p s h s' h') (y : WS p s' h' s'' h'') : WS p s h s'' h'' := by
  refine ⟨x.o.transN y.o (Nat.le_refl _) x.n, ?_⟩
  rcases y.n with e | ⟨b, e, hb⟩
  · rcases x.n with e2 | ⟨b, e2, hb⟩
    · exact .inl (e.trans e2)
    · exact .inr ⟨b, e.trans e2, hb⟩
  · exact .inr ⟨b, e, by have := x.o.1; omega⟩
theorem WS.ext {p : Nat} {s s' : Sl} {h h' h0 : Hp} {l : List Int} (x : WS p s h s' h') (q : WQ h p s l) (e : Ext h0 h) (hp : h0.size ≤ p) : Ext h0 h' :=
  ⟨Nat.le_trans e.size x.o.1, fun i hi => (x.o.2 i (by have := e.size; omega) (by omega) fun a ha => by have := q.o.above a ha; omega).trans (e.get i hi)⟩
theorem WQ.put {h h2 : Hp} {p : Nat} {s s' : Sl} {l l' : List Int} (q : WQ h p s l) (o2 : OwnRow (encI .u8) 1 (p + 1) h2 s' l') (u : OnlyS s h h2) (hn : s'.a = s.a ∨ ∃ b, s'.a = some ⟨b, 0, none⟩ ∧ h.size ≤ b) {K : Hp → Prop}
    (hk : ∀ h3, WQ h3 p s' l' → WS p s h s' h3 → K h3) : stC h2 ⟨p, 0, none⟩ (Let (hset h2 ⟨p, 0, none⟩ (.slice s'.a s'.len s'.cap)) K) := by
  have b2 : Blk h2 p #[.slice s.a s.len s.cap] := q.b.onlyS u q.apart
  refine set_to b2 (i := 0) (by simp) fun h3 b3 u3 k3 z3 => hk h3 ⟨by simpa using b3, o2.only u3 (by omega)⟩ ⟨(u.onlyP p).trans (u3.onlyP s), hn⟩

theorem fdiv128 (m : Nat) : Int.fdiv (m : Int) (2 ^ min (Int.toNat 7) (IntKind.bits .u64)) = ((m / 128 : Nat) : Int) := by
  show Int.fdiv (m : Int) 128 = _
  rw [Int.fdiv_eq_ediv_of_nonneg _ (by decide)]; rfl
theorem w_Num {h : Hp} {p : Nat} {s : Sl} {l : List Int} {n : Nat} {K : Hp → Prop} (q : WQ h p s l) (hn : n < 18446744073709551616) (hb : l.length + 10 ≤ 140737488355328)
    (hK : ∀ s' h', WQ h' p s' (l ++ vb n) → WS p s h s' h' → K h') : C_code_Writer_Num (some ⟨p, 0, none⟩) n h K := by
  have hv := vb_len10 hn
  refine F_code_Writer_Num_ok _ _ _ _ (cnd_no rfl ?_)
  rw [Jn_eq]
  refine Lp.inv (fun st => ∃ (m : Nat) (s1 : Sl) (l1 : List Int), st.1.1 = (m : Int) ∧ WQ st.2 p s1 l1 ∧ l1 ++ vb m = l ++ vb n ∧ WS p s h s1 st.2 ∧ m < 18446744073709551616) (fun st => st.1.1.toNat) ?_ ⟨n, s, l, rfl, q, rfl, WS.refl _ _ _, hn⟩
  rintro ⟨⟨m, ⟨⟩⟩, h1⟩ R ⟨m, s1, l1, rfl, q1, e1, w1, hm⟩ hR
  simp only at q1 e1 w1
  have hl : l1.length + (vb m).length = l.length + (vb n).length := by rw [← List.length_append, e1, List.length_append]
  have hplt := q1.b.lt
  unfold L1_code_Writer_Num
  dsimp only
  refine cnd_dec.2 ⟨fun hge => ?_, fun hlt => ?_⟩
  · have hbig : ¬ m < 128 := by omega
    rw [vb_big hbig] at e1 hl
    simp only [List.length_cons] at hl
    refine ldA_blk (s := .sl) (x := s1) q1.b rfl (let_to (let_to ?_))
    refine app1 (l := l1) enc8 (by decide) q1.o (by omega) (by omega) (by decide) rfl ((m % 128 + 128 : Nat) : Int) (by rw [or8]; rfl) fun s2 h2 o2 u2 _ n2 => ?_
    refine ⟨rfl, q1.put o2 u2 n2 fun h3 q3 w3 => ⟨by decide, let_to ?_⟩⟩
    rw [fdiv128]
    refine hR _ ⟨m / 128, s2, _, rfl, q3, ?_, w1.trans w3, by omega⟩ (by simp only; omega)
    rw [List.append_assoc]; exact e1
  · have hsm : m < 128 := by omega
    rw [vb_small hsm] at e1 hl
    simp only [List.length_cons, List.length_nil] at hl
    unfold J1_code_Writer_Num
    refine ldA_blk (s := .sl) (x := s1) q1.b rfl (let_to ?_)
    refine app1 (l := l1) enc8 (by decide) q1.o (by omega) (by omega) (by decide) rfl (m : Int) (by rw [wrap_u8 (by omega) (by omega)]; rfl) fun s2 h2 o2 u2 _ n2 => ?_
    refine ⟨rfl, q1.put o2 u2 n2 fun h3 q3 w3 => ?_⟩
    rw [e1] at q3
    exact hK s2 h3 q3 (w1.trans w3)
theorem w_Int {h : Hp} {p : Nat} {s : Sl} {l : List Int} {n : Int} {K : Hp → Prop} (q : WQ h p s l) (hn : I64 n) (hb : l.length + 10 ≤ 140737488355328)
    (hK : ∀ s' h', WQ h' p s' (l ++ vb (zig n)) → WS p s h s' h' → K h') : C_code_Writer_Int (some ⟨p, 0, none⟩) n h K := by
  have hz := zig_lt hn
  unfold I64 at hn
  refine F_code_Writer_Int_ok _ _ _ _ ?_
  unfold F_code_Writer_Int
  simp only [Let_eq]
  have e2 : (2 : Int) ^ min (Int.toNat 1) (IntKind.bits .u64) = 2 := rfl
  refine ⟨by decide, cnd_dec.2 ⟨fun hneg => ?_, fun hpos => ?_⟩⟩
  · have e : IntKind.wrap .u64 (IntKind.wrap .u64 n * 2 ^ min (Int.toNat 1) (IntKind.bits .u64)) = ((18446744073709551615 - zig n : Nat) : Int) := by
      rw [e2, wrap_u64_mod, wrap_u64_mod]
      unfold zig at hz ⊢
      rw [if_pos hneg] at hz ⊢
      omega
    rw [e, not64 (by omega), show 18446744073709551615 - (18446744073709551615 - zig n) = zig n by omega]
    exact w_Num q hz hb hK
  · have e : IntKind.wrap .u64 (IntKind.wrap .u64 n * 2 ^ min (Int.toNat 1) (IntKind.bits .u64)) = ((zig n : Nat) : Int) := by
      rw [e2, wrap_u64_mod, wrap_u64_mod]
      unfold zig at hz ⊢
      rw [if_neg hpos] at hz ⊢
      omega
    rw [e]
    exact w_Num q hz hb hK
/-! Parts. -/
abbrev PT : List At := [.int .i64, .int .u64, .int .i64, .bool, .str, .int .i64, .int .i64, .int .i64]
theorem encPT : Enc (vsA PT) 8 := encA rfl
abbrev ptK (x : StA PT) : Int := x.1
abbrev ptN (x : StA PT) : Int := x.2.1
abbrev ptI (x : StA PT) : Int := x.2.2.1
abbrev ptF (x : StA PT) : Bool := x.2.2.2.1
abbrev ptT (x : StA PT) : ByteArray := x.2.2.2.2.1
abbrev ptL (x : StA PT) : Int := x.2.2.2.2.2.1
abbrev ptH (x : StA PT) : Int := x.2.2.2.2.2.2.1
abbrev ptM (x : StA PT) : Int := x.2.2.2.2.2.2.2.1
structure PtOk (x : StA PT) : Prop where
  n : 0 ≤ ptN x ∧ ptN x < 18446744073709551616
  i : I64 (ptI x)
def pbs (x : StA PT) : List Int := if ptK x = 0 then vb (ptN x).toNat else if ptK x = 1 then vb (zig (ptI x)) else if ptK x = 2 then vb (if ptF x then 1 else 0) else vb (ptT x).size ++ bts (ptT x)
theorem pbs_len {x : StA PT} (ok : PtOk x) (ht : (ptT x).size < 18446744073709551616) : (pbs x).length ≤ 10 + (ptT x).size := by
  unfold pbs
  have h1 := vb_len10 (n := (ptN x).toNat) (by have := ok.n; omega)
  have h2 := vb_len10 (zig_lt ok.i)
  have h3 := vb_len10 (n := if ptF x then 1 else 0) (by split <;> decide)
  have h4 := vb_len10 ht
  split
  · omega
  · split
    · omega
    · split
      · omega
      · rw [List.length_append, bts_len]; omega
def tsz (l : List (StA PT)) : Nat := (l.map fun x => (ptT x).size).sum
theorem tsz_snoc (l : List (StA PT)) (x : StA PT) : tsz (l ++ [x]) = tsz l + (ptT x).size := by simp [tsz]
theorem pbs_all {l : List (StA PT)} (ok : ∀ x ∈ l, PtOk x ∧ (ptT x).size < 18446744073709551616) : (l.flatMap pbs).length ≤ 10 * l.length + tsz l := by
  induction l with
  | nil => simp [tsz]
  | cons x l ih =>
    have h1 := pbs_len (ok x (by simp)).1 (ok x (by simp)).2
    have h2 := ih fun y hy => ok y (by simp [hy])
    rw [List.flatMap_cons, List.length_append, show tsz (x :: l) = (ptT x).size + tsz l by simp [tsz]]
    simp only [List.length_cons]; omega
theorem tsz_take {l : List (StA PT)} {k : Nat} : tsz (l.take k) ≤ tsz l := by
  have : tsz l = tsz (l.take k) + tsz (l.drop k) := by
    unfold tsz
    rw [← List.sum_append, ← List.map_append, List.take_append_drop]
  omega
theorem take_snoc {α : Type} {l : List α} {k : Nat} {x : α} (h : l[k]? = some x) : l.take k ++ [x] = l.take (k + 1) := by
  rw [List.take_add_one, h]; rfl
/-- How much parts ask. -/
def Few (l : List (StA PT)) : Prop := 10 * l.length + tsz l + 100 ≤ 140737488355328 ∧ ∀ x ∈ l, PtOk x
theorem Few.tx {l : List (StA PT)} (f : Few l) {x : StA PT} (hx : x ∈ l) : (ptT x).size ≤ 140737488355328 := by
  have h1 := f.1
  have : (ptT x).size ≤ tsz l := by
    obtain ⟨a, b, rfl⟩ := List.append_of_mem hx
    simp [tsz]; omega
  omega
theorem Few.pre {l : List (StA PT)} (f : Few l) {k : Nat} {x : StA PT} (hx : l[k]? = some x) : ((l.take k).flatMap pbs).length + 10 + (ptT x).size ≤ 140737488355328 := by
  have h1 := f.1
  have hm : x ∈ l := List.mem_of_getElem? hx
  have h2 := pbs_all (l := l.take k) fun y hy => ⟨f.2 y (List.mem_of_mem_take hy), by have := f.tx (List.mem_of_mem_take hy); omega⟩
  have h3 := tsz_take (l := l) (k := k + 1)
  rw [← take_snoc hx, tsz_snoc] at h3
  have hlt := (List.getElem?_eq_some_iff.1 hx).1
  rw [List.length_take] at h2
  omega
theorem flat_take {α β : Type} (f : α → List β) {l : List α} {k : Nat} {x : α} (h : l[k]? = some x) : (l.take k).flatMap f ++ f x = (l.take (k + 1)).flatMap f := by
  rw [← take_snoc h, List.flatMap_append]; simp

theorem _root_.Go.Proofs.YtjifeclbpgonpaaDoorK.IsRow.blt {α : Type} {enc : α → List Value} {size : Nat} (hE : Enc enc size) (hs : 0 < size) {h : Hp} {s : Sl} {l : List α} (r : IsRow enc size h s l) (hl : l ≠ []) : ∀ a, s.a = some a → a.block < h.size := fun a ha => by
  have hp := List.length_pos_iff.2 hl
  have := r.get a 0 l[0] ha (List.getElem?_eq_getElem hp) 0 (by rw [hE.len]; exact hs)
  have := hcell_lt (a := (a.add (0 * size)).add 0) (by rw [this, List.getElem?_eq_getElem (by rw [hE.len]; exact hs)])
  rw [add_block, add_block] at this; exact this
theorem w_Num_nil {h : Hp} {n : Int} {K : Hp → Prop} (hK : K h) : C_code_Writer_Num none n h K := F_code_Writer_Num_ok _ _ _ _ (by unfold F_code_Writer_Num; exact hK)
theorem w_Int_nil {h : Hp} {n : Int} {K : Hp → Prop} (hK : K h) : C_code_Writer_Int none n h K := by
  refine F_code_Writer_Int_ok _ _ _ _ (let_to ⟨by decide, let_to (cnd_dec.2 ⟨fun _ => let_to (w_Num_nil hK), fun _ => w_Num_nil hK⟩)⟩)
theorem c_Clone8 {h : Hp} {s : Sl} {l : List Int} {K : Sl → Hp → Prop} (r : R8 h s l) (hb : l.length ≤ 140737488355328) (hK : ∀ s' h', OwnRow (encI .u8) 1 h.size h' s' l → Ext h h' → K s' h') : C_slices_Clone_byte_byte s h K :=
  F_slices_Clone_byte_byte_ok _ _ _ (clone_to enc8 (by decide) r (by omega) (by decide) rfl hK)
theorem w_Bytes {h : Hp} {p : Nat} {s : Sl} {l : List Int} {K : Sl → Hp → Prop} (q : WQ h p s l) (hb : l.length ≤ 140737488355328) (hK : ∀ s' h', OwnRow (encI .u8) 1 h.size h' s' l → Ext h h' → K s' h') : C_code_Writer_Bytes (some ⟨p, 0, none⟩) h K :=
  F_code_Writer_Bytes_ok _ _ _ (ldA_blk (s := .sl) (x := s) q.b rfl (c_Clone8 q.o.row hb hK))
theorem w_New {h : Hp} {K : Option Addr → Hp → Prop} (hK : ∀ h', Ext h h' → WQ h' h.size ⟨none, 0, 0⟩ [] → K (some ⟨h.size, 0, none⟩) h') : C_code_NewWriter h K :=
  F_code_NewWriter_ok _ _ (push_to fun h1 b1 e1 z1 => let_to (hK h1 e1 ⟨b1, OwnRow.nil _ _ _ _⟩))
theorem s_Same {h : Hp} {s t : Sl} {l m : List Int} {K : Bool → Hp → Prop} (r : R8 h s l) (r' : R8 h t m) (hb : l.length ≤ 140737488355328) (hK : K (decide (l = m)) h) : C_ref02_Same s t h K := by
  have h1 := r.len
  have h2 := r'.len
  refine F_ref02_Same_ok _ _ _ _ (cnd_bne.2 ⟨fun hne => ?_, fun heq => ?_⟩)
  · rw [decide_eq_false fun e => hne (by rw [h1, h2, e])] at hK; exact hK
  · have hlen : l.length = m.length := by omega
    refine Lp.inv (fun st => ∃ k : Nat, st.1.1 = (k : Int) ∧ k ≤ l.length ∧ st.2 = h ∧ l.take k = m.take k) (fun st => l.length - st.1.1.toNat) ?_ ⟨0, rfl, by omega, rfl, rfl⟩
    rintro ⟨⟨i, ⟨⟩⟩, g⟩ R ⟨k, rfl, hk, rfl, ht⟩ hR
    unfold L1_ref02_Same
    dsimp only
    refine cnd_dec.2 ⟨fun hlt => ?_, fun hge => ?_⟩
    · have hx : l[k]? = some l[k] := List.getElem?_eq_getElem (by omega)
      have hy : m[k]? = some m[k] := List.getElem?_eq_getElem (by omega)
      refine ld_int0 (i := (k : Int)) (x := l[k]) r (by omega) hx (ld_int0 (i := (k : Int)) (x := m[k]) r' (by omega) hy (cnd_bne.2 ⟨fun hne => ?_, fun he => ?_⟩))
      · rw [decide_eq_false fun e => hne (by subst e; rfl)] at hK; exact hK
      · refine let_to ?_
        rw [wrap_i64 (by omega) (by omega)]
        refine hR _ ⟨k + 1, by simp, by omega, rfl, ?_⟩ (by simp only; omega)
        rw [← take_snoc hx, ← take_snoc hy, ht, he]
    · obtain rfl : k = l.length := by omega
      rw [List.take_length, hlen, List.take_length] at ht
      rw [decide_eq_true ht] at hK; exact hK

/-! The document's. -/
theorem r_Num {h : Hp} {s : Sl} {l : List Int} {n : Nat} {K : Sl → Hp → Prop} (r : R8 h s l) (hn : n < 18446744073709551616) (hb : l.length + 10 ≤ 140737488355328)
    (hK : ∀ s' h', OwnRow (encI .u8) 1 h.size h' s' (l ++ vb n) → Ext h h' → K s' h') : C_ref03_Num s n h K := by
  have hv := vb_len10 hn
  refine F_ref03_Num_ok _ _ _ _ (app_row enc8 (by decide) (OwnRow.nil _ _ h.size h) r (Nat.le_refl _) (by simp; omega) (by decide) rfl fun s1 h1 o1 u1 _ => ?_)
  have e1 : Ext h h1 := ⟨u1.1, fun i hi => u1.2 i hi fun a ha => by cases ha⟩
  rw [Jn_eq]
  refine Lp.inv (fun st => ∃ (m : Nat) (l1 : List Int), st.1.1 = (m : Int) ∧ OwnRow (encI .u8) 1 h.size st.2 st.1.2.1 l1 ∧ l1 ++ vb m = l ++ vb n ∧ Ext h st.2 ∧ m < 18446744073709551616) (fun st => st.1.1.toNat) ?_ ⟨n, l, rfl, by simpa using o1, rfl, e1, hn⟩
  rintro ⟨⟨m, s2, ⟨⟩⟩, h2⟩ R ⟨m, l1, rfl, o2, e2, x2, hm⟩ hR
  simp only at o2 e2 x2
  have hl : l1.length + (vb m).length = l.length + (vb n).length := by rw [← List.length_append, e2, List.length_append]
  have hsz := x2.size
  unfold L1_ref03_Num
  dsimp only
  have ed : Int.tdiv (m : Int) 128 = ((m / 128 : Nat) : Int) := rfl
  have em : Int.tmod (m : Int) 128 = ((m % 128 : Nat) : Int) := rfl
  refine ⟨by decide, let_to ?_⟩
  rw [ed, wrap_u64 (x := ((m / 128 : Nat) : Int)) (by omega) (by omega)]
  refine cnd_dec.2 ⟨fun hpos => ?_, fun hz => ?_⟩
  · have hbig : ¬ m < 128 := by omega
    rw [vb_big hbig] at e2 hl
    simp only [List.length_cons] at hl
    refine ⟨by decide, let_to (let_to (let_to ?_))⟩
    rw [em, wrap_u64 (x := (128 : Int) + ((m % 128 : Nat) : Int)) (by omega) (by omega), wrap_u8 (by omega) (by omega), show (128 : Int) + ((m % 128 : Nat) : Int) = ((m % 128 + 128 : Nat) : Int) by omega]
    refine app1 (l := l1) enc8 (by decide) o2 hsz (by omega) (by decide) rfl ((m % 128 + 128 : Nat) : Int) rfl fun s3 h3 o3 u3 b3 n3 => ?_
    refine ⟨by decide, let_to ?_⟩
    refine (hR _ ⟨m / 128, _, rfl, o3, ?_, (x2.bel.trans b3).ext, by omega⟩ (by simp only; omega))
    rw [List.append_assoc]; exact e2
  · have hsm : m < 128 := by omega
    rw [vb_small hsm] at e2 hl
    simp only [List.length_cons, List.length_nil] at hl
    unfold J1_ref03_Num
    dsimp only
    refine let_to ?_
    refine app1 (l := l1) enc8 (by decide) o2 hsz (by omega) (by decide) rfl (m : Int) (by rw [wrap_u8 (by omega) (by omega)]; rfl) fun s3 h3 o3 u3 b3 n3 => ?_
    rw [e2] at o3
    exact hK s3 h3 o3 (x2.bel.trans b3).ext
theorem r_Signed {h : Hp} {n : Int} {K : Int → Hp → Prop} (hn : I64 n) (hK : K (zig n) h) : C_ref03_Signed n h K := by
  have hz := zig_lt hn
  unfold I64 at hn
  refine F_ref03_Signed_ok _ _ _ ?_
  unfold F_ref03_Signed
  simp only [Let_eq]
  refine cnd_dec.2 ⟨fun hneg => at_val hK ?_, fun hpos => at_val hK ?_⟩
  · rw [wrap_i64 (x := n + 1) (by omega) (by omega), wrap_i64 (by omega) (by omega)]
    simp only [wrap_u64_mod]
    unfold zig at hz ⊢
    rw [if_pos hneg] at hz ⊢
    omega
  · simp only [wrap_u64_mod]
    unfold zig at hz ⊢
    rw [if_neg hpos] at hz ⊢
    omega
theorem r_Write {h : Hp} {sl : Sl} {l : List (StA PT)} {K : Sl → Hp → Prop} (r : IsRow (vsA PT) 8 h sl l) (hf : Few l) (hK : ∀ s' h', OwnRow (encI .u8) 1 h.size h' s' (l.flatMap pbs) → Ext h h' → K s' h') : C_ref03_Write sl h K := by
  have hls := r.len
  have hll := hf.1
  refine F_ref03_Write_ok _ _ _ ?_
  refine Lp.inv (fun st => ∃ k : Nat, st.1.2.1 = (k : Int) ∧ k ≤ l.length ∧ OwnRow (encI .u8) 1 h.size st.2 st.1.1 ((l.take k).flatMap pbs) ∧ Ext h st.2) (fun st => l.length - st.1.2.1.toNat) ?_ ⟨0, rfl, by omega, by simpa using OwnRow.nil _ _ _ _, Ext.refl _⟩
  rintro ⟨⟨s1, i, ⟨⟩⟩, h1⟩ R ⟨k, rfl, hk, o1, x1⟩ hR
  simp only at hk o1 x1
  have hsz := x1.size
  unfold L1_ref03_Write
  dsimp only
  refine cnd_dec.2 ⟨fun hlt => ?_, fun hge => ?_⟩
  · have hkl : k < l.length := by omega
    have hx : l[k]? = some l[k] := List.getElem?_eq_getElem hkl
    have hx' : l[(k : Int).toNat]? = some l[k] := hx
    have hm : l[k] ∈ l := List.mem_of_getElem? hx
    have ok := hf.2 _ hm
    have hpre := hf.pre hx
    have htx := hf.tx hm
    have r1 : IsRow (vsA PT) 8 h1 sl l := r.ext x1
    have next : ∀ s2 h2, OwnRow (encI .u8) 1 h.size h2 s2 ((l.take k).flatMap pbs ++ pbs l[k]) → Ext h h2 → Let (IntKind.wrap .i64 ((k : Int) + 1)) fun t => R ((s2, t, ()), h2) := fun s2 h2 q2 w2 => by
      rw [Let_eq, wrap_i64 (by omega) (by omega)]
      rw [flat_take pbs hx] at q2
      exact hR _ ⟨k + 1, by simp, by omega, q2, w2⟩ (by simp only; omega)
    refine ld_row (i := (k : Int)) (x := l[k]) r1 (by omega) hx' fun a ha hc => ldA_row0 hc rfl ?_
    refine cnd_beq.2 ⟨fun h0 => ?_, fun n0 => cnd_beq.2 ⟨fun h1e => ?_, fun n1 => cnd_beq.2 ⟨fun h2e => ?_, fun n2 => ?_⟩⟩⟩
    · refine ld_row (i := (k : Int)) (x := l[k]) r1 (by omega) hx' fun a ha hc => ldA_row (x := ptN l[k]) hc rfl ?_
      rw [show ptN l[k] = (((ptN l[k]).toNat : Nat) : Int) by have := ok.n; omega]
      refine r_Num (s := s1) o1.row (by have := ok.n; omega) (by omega) fun s2 h2 q2 w2 => next s2 h2 ?_ (x1.trans w2)
      unfold pbs; rw [if_pos h0]; exact q2.weaken hsz
    · refine ld_row (i := (k : Int)) (x := l[k]) r1 (by omega) hx' fun a ha hc => ldA_row (x := ptI l[k]) hc rfl (r_Signed ok.i ?_)
      refine r_Num (s := s1) o1.row (zig_lt ok.i) (by omega) fun s2 h2 q2 w2 => next s2 h2 ?_ (x1.trans w2)
      unfold pbs; rw [if_neg n0, if_pos h1e]; exact q2.weaken hsz
    · refine ld_row (i := (k : Int)) (x := l[k]) r1 (by omega) hx' fun a ha hc => ldA_row (s := .bool) (x := ptF l[k]) hc rfl ?_
      refine cnd_if (fun ht => ?_) fun hfl => ?_
      · refine r_Num (n := 1) (s := s1) o1.row (by decide) (by omega) fun s2 h2 q2 w2 => next s2 h2 ?_ (x1.trans w2)
        unfold pbs; rw [if_neg n0, if_neg n1, if_pos h2e, ht]; exact q2.weaken hsz
      · refine r_Num (n := 0) (s := s1) o1.row (by decide) (by omega) fun s2 h2 q2 w2 => next s2 h2 ?_ (x1.trans w2)
        unfold pbs; rw [if_neg n0, if_neg n1, if_pos h2e, hfl]; exact q2.weaken hsz
    · refine ld_row (i := (k : Int)) (x := l[k]) r1 (by omega) hx' fun a ha hc => ldA_row (s := .str) (x := ptT l[k]) hc rfl (let_to ?_)
      rw [wrap_u64 (by omega) (by omega)]
      have hv := vb_len10 (n := (ptT l[k]).size) (by omega)
      refine r_Num (s := s1) o1.row (by omega) (by omega) fun s2 h2 q2 w2 => ?_
      have sz2 := w2.size
      refine ld_row (i := (k : Int)) (x := l[k]) (r1.ext w2) (by omega) hx' fun a ha hc => ldA_row (s := .str) (x := ptT l[k]) hc rfl ?_
      refine app_text q2 (by omega) (by rw [List.length_append]; omega) rfl fun s3 h3 o3 u3 n3 => next s3 h3 ?_ ?_
      · unfold pbs; rw [if_neg n0, if_neg n1, if_neg n2, ← List.append_assoc]; exact o3.weaken hsz
      · exact ((x1.trans w2).bel.trans ((u3.bel (B := h1.size) sz2 q2.above).mono hsz)).ext
  · obtain rfl : k = l.length := by omega
    rw [List.take_length] at o1
    exact hK s1 h1 o1 x1
end Go.Proofs.YtjifeclbpgonpaaDoorF
