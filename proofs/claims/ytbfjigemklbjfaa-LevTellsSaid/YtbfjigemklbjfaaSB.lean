/- strings.Builder, as the seat's code has it: a text that grows at its end; IndexByte. No condition. -/
import Derived.Test.YtbfjigemklbjfaaF
import Derived.Test.YtbfjigemklbjfaaK19
namespace Go.Proofs.YtbfjigemklbjfaaF
open Go Go.Proofs.YtbfjigemklbjfaaK
set_option linter.unusedSimpArgs false
set_option linter.unusedVariables false

abbrev e8 := Go.Proofs.YtbfjigemklbjfaaK.encI .u8
theorem e8_ok : Enc e8 1 := encI_ok _
/-- A Builder in memory, and the bytes it holds. -/
structure BW (h : Hp) (p : Nat) (s : Sl) (l : List Int) : Prop where
  b : ∃ ad : Option Addr, h[p]? = some (.cells #[.pointer ad, .slice s.a s.len s.cap] T_strings_Builder (0, 0)) ∧ (ad = none ∨ ad = some ⟨p, 0, none⟩)
  o : OwnT e8 1 (p + 1) T_uint8 h s l
  by_ : ∀ c ∈ l, 0 ≤ c ∧ c ≤ 255
  pos : s.a = none ∨ 0 < s.cap
theorem BW.lt {h : Hp} {p : Nat} {s : Sl} {l : List Int} (q : BW h p s l) : p < h.size := by obtain ⟨ad, h1, _⟩ := q.b; exact block_lt h1
theorem BW.new {h : Hp} {p : Nat} (hb : h[p]? = some (.cells #[.pointer none, .slice none 0 0] T_strings_Builder (0, 0))) : BW h p ⟨none, 0, 0⟩ [] :=
  ⟨⟨none, hb, .inl rfl⟩, OwnT.nil _ _ _ _ _, (fun c hc => by cases hc), .inl rfl⟩
theorem BW.keep {h h' : Hp} {p : Nat} {s : Sl} {l : List Int} (q : BW h p s l) (hp : h'[p]? = h[p]?) (hs : ∀ a, s.a = some a → h'[a.block]? = h[a.block]?) : BW h' p s l := by
  obtain ⟨ad, h1, h2⟩ := q.b
  exact ⟨⟨ad, by rw [hp]; exact h1, h2⟩, q.o.keep hs, q.by_, q.pos⟩
theorem BW.ext {h h' : Hp} {p : Nat} {s : Sl} {l : List Int} (q : BW h p s l) (x : Ext h h') : BW h' p s l := q.keep (x.get _ q.lt) fun a ha => x.get _ (q.o.lt a ha)
theorem BW.onlyBel {h h' : Hp} {p : Nat} {s : Sl} {l : List Int} (q : BW h p s l) (u : OnlyP p s h h') : Bel p h h' := u.bel (Nat.le_of_lt q.lt) (Nat.le_refl _) fun a ha => by have := q.o.above a ha; omega
/-- What grows: the Builder itself and its bytes. -/
def BGrow (p : Nat) (s s' : Sl) (h h' : Hp) : Prop := OnlyP p s h h' ∧ (s'.a = s.a ∨ ∃ b, s'.a = some ⟨b, 0, none⟩ ∧ h.size ≤ b)
theorem BGrow.trans {p : Nat} {s s' s'' : Sl} {h h' h'' : Hp} (x : BGrow p s s' h h') (y : BGrow p s' s'' h' h'') : BGrow p s s'' h h'' := by
  refine ⟨x.1.transN y.1 (Nat.le_refl _) x.2, ?_⟩
  have := x.1.1
  rcases y.2 with e | ⟨b, e, hb⟩
  · rw [e]; exact x.2
  · exact .inr ⟨b, e, by omega⟩
theorem BGrow.refl (p : Nat) (s : Sl) (h : Hp) : BGrow p s s h h := ⟨OnlyP.refl _ _ _, .inl rfl⟩
theorem BGrow.thenExt {p : Nat} {s s' : Sl} {h h' h'' : Hp} (x : BGrow p s s' h h') (y : Ext h' h'') : BGrow p s s' h h'' :=
  ⟨⟨Nat.le_trans x.1.1 y.size, fun i hi hp hs => (y.get i (by have := x.1.1; omega)).trans (x.1.2 i hi hp hs)⟩, x.2⟩

theorem sb_cellsB : Try.prog.cellsOf T_strings_Builder = 2 := by kernel_rfl
theorem sb_lies : liesAt Try.prog Try.prog.depth T_strings_Builder (2 / 2) 0 T_strings_Builder 1 = true := by kernel_rfl
theorem sb_u1 : Try.prog.underlying T_Pstrings_Builder = some (.pointer T_strings_Builder) := by kernel_rfl
theorem sb_u2 : Try.prog.underlying T_unsafe_Pointer = some .unsafePointer := by kernel_rfl
theorem sb_u3 : Try.prog.underlying T_Puint8 = some (.pointer T_uint8) := by kernel_rfl
theorem sb_size : (Try.prog.info? T_strings_Builder).map (·.size) = some 2 := by kernel_rfl
theorem sb_cells8 : Try.prog.cellsOf T_uint8 = 1 := by kernel_rfl
theorem sb_same8 : sameLayout Try.prog Try.prog.depth T_uint8 T_uint8 = true := by kernel_rfl
theorem sb_depth : Try.prog.depth = (Try.prog.depth - 1) + 1 := by kernel_rfl
theorem sb_cv1 {h : Hp} {p : Nat} {c : Array Value} (hb : h[p]? = some (.cells c T_strings_Builder (0, 0))) (hc : c.size = 2) {K : Option Addr → Hp → Prop} (hK : K (some ⟨p, 0, none⟩) h) :
    smV Try.prog (Conv.unsafePointer T_Pstrings_Builder T_unsafe_Pointer (.pointer (some ⟨p, 0, none⟩))) .ptr h K := by
  obtain ⟨inf, hi, hs⟩ := Option.map_eq_some_iff.1 sb_size
  unfold smV Conv.unsafePointer
  have hs' : (inf.size = 0) = False := by simp [hs]
  simp only [wpS_bindI, wpS_und sb_u1, wpS_und sb_u2, wpS_seenAt (a := ⟨p, 0, none⟩) hb, wpS_cellsIn hb, wpS_sizeOf hi, hc, hs']
  simp only [ge_iff_le, Nat.le_zero_eq, show (2 = 0) = False by simp, decide_false, Bool.false_and, Bool.false_eq_true, or_self, if_false, wpS_pure]
  exact ⟨_, rfl, hK⟩
theorem sb_cv2 {h : Hp} {p : Nat} {c : Array Value} (hb : h[p]? = some (.cells c T_strings_Builder (0, 0))) (hc : c.size = 2) {K : Option Addr → Hp → Prop} (hK : K (some ⟨p, 0, none⟩) h) :
    smV Try.prog (Conv.unsafePointer T_unsafe_Pointer T_Pstrings_Builder (.pointer (some ⟨p, 0, none⟩))) .ptr h K := by
  obtain ⟨inf, hi, hs⟩ := Option.map_eq_some_iff.1 sb_size
  unfold smV Conv.unsafePointer
  have hs' : (inf.size = 0) = False := by simp [hs]
  simp only [wpS_bindI, wpS_und sb_u1, wpS_und sb_u2, wpS_seenAt (a := ⟨p, 0, none⟩) hb, wpS_sizeOf hi, hs', wpS_varsAt (a := ⟨p, 0, none⟩) hb, hc, sb_cellsB, sb_lies]
  exact ⟨_, rfl, hK⟩
theorem sb_check {h : Hp} {p : Nat} {s : Sl} {l : List Int} (q : BW h p s l) {K : Hp → Prop} (hK : ∀ h', BW h' p s l → Only p h h' → h'.size = h.size → K h') : C_strings_Builder_copyCheck (some ⟨p, 0, none⟩) h K := by
  obtain ⟨ad, h1, h2⟩ := q.b
  have bk : Blk h p #[.pointer ad, .slice s.a s.len s.cap] := ⟨_, h1⟩
  refine F_strings_Builder_copyCheck_ok _ _ _ ?_
  refine ldA_blk (s := .ptr) (i := 0) (x := ad) bk rfl ?_
  rcases h2 with rfl | rfl
  · refine sb_cv1 h1 rfl (E_internal_abi_NoEscape_ok _ _ _ ?_)
    refine ⟨(some ⟨p, 0, none⟩, ()), rfl, sb_cv2 h1 rfl ⟨rfl, ?_⟩⟩
    have o' := hset_only h ⟨p, 0, none⟩ (.pointer (some ⟨p, 0, none⟩))
    exact stC_blk bk (by simp) (hK _ ⟨⟨some ⟨p, 0, none⟩, by have := hset_block (o := 0) (v := .pointer (some ⟨p, 0, none⟩)) h1; simpa using this, .inr rfl⟩, q.o.keep fun a ha => o'.get _ (q.o.lt a ha) (by have := q.o.above a ha; simp only; omega), q.by_, q.pos⟩ o' (hset_size _ _ _))
  · refine ldA_blk (s := .ptr) (i := 0) (x := some ⟨p, 0, none⟩) bk rfl ⟨rfl, ?_⟩
    have e : ((⟨p, 0, none⟩ : Addr) == ⟨p, 0, none⟩) = true := by simp
    rw [e]
    exact hK h q (Only.refl _ _) rfl
theorem sb_byte {h : Hp} {p : Nat} {s : Sl} {l : List Int} {c : Int} (q : BW h p s l) (hc : 0 ≤ c ∧ c ≤ 255) (hl : l.length < 140737488355328) {K : Value → Hp → Prop} (hK : ∀ s' h', BW h' p s' (l ++ [c]) → BGrow p s s' h h' → ∀ v, K v h') : C_strings_Builder_WriteByte (some ⟨p, 0, none⟩) c h K := by
  refine F_strings_Builder_WriteByte_ok _ _ _ _ (sb_check q fun h1 q1 o1 z1 => ?_)
  obtain ⟨ad, b1, hh1⟩ := q1.b
  have bk : Blk h1 p #[.pointer ad, .slice s.a s.len s.cap] := ⟨_, b1⟩
  refine ldA_blk (s := .sl) (i := 1) (x := s) bk rfl (push_to fun h2 b2 e2 z2 => let_to ?_)
  have src : IsRow e8 1 h2 ⟨some ⟨h1.size, 0, none⟩, 1, 1⟩ [c] := Blk.row e8_ok b2 (l := [c]) (cap := 1) (Nat.le_refl _) (by simp [encI])
  have hlt := q1.lt
  refine appT_row e8_ok (by decide) (q1.o.ext e2) src (by omega) (by simp; omega) (by decide) rfl fun s' h3 o3 u3 n3 => ?_
  have ab := q1.o.above
  have ab' := o3.above
  have b3 : h3[p]? = some (.cells #[.pointer ad, .slice s.a s.len s.cap] T_strings_Builder (0, 0)) := by
    rw [u3.2 p (by omega) fun a ha => by have := ab a ha; omega, e2.get p hlt]; exact b1
  have bk3 : Blk h3 p #[.pointer ad, .slice s.a s.len s.cap] := ⟨_, b3⟩
  have o4 := hset_only h3 ⟨p, 1, none⟩ (.slice s'.a s'.len s'.cap)
  refine ⟨rfl, stC_blk bk3 (by simp) (hK s' _ ⟨⟨ad, by have := hset_block (o := 1) (v := .slice s'.a s'.len s'.cap) b3; simpa using this, hh1⟩, o3.keep fun a ha => o4.get _ (o3.lt a ha) (by have := ab' a ha; simp only; omega), fun x hx => ?_, ?_⟩ ⟨⟨?_, fun i hi hp hs => ?_⟩, ?_⟩ _)⟩
  · rcases List.mem_append.1 hx with h | h
    · exact q1.by_ x h
    · simp at h; subst h; exact hc
  · refine .inr ?_
    have := o3.row.cap
    have := o3.row.len
    simp at this
    omega
  · rw [hset_size]; have := u3.1; omega
  · rw [hset_other hp, u3.2 i (by omega) hs, e2.get i (by omega), o1.get i hi hp]
  · exact n3.imp id fun ⟨b, h1', h2'⟩ => ⟨b, h1', by omega⟩
theorem hcell_freeze (h : Hp) (a b : Addr) (n : Nat) : hcell (hfreeze h a n) b = hcell h b := by
  cases n with
  | zero => rfl
  | succ n =>
    have e0 : (hfreeze h a (n + 1))[b.block]? = if a.block = b.block then (h[b.block]?).map (fun
      | .cells c elem (lo, hi) => .cells c elem (if lo == hi then (a.off, a.off + (n + 1)) else (min lo a.off, max hi (a.off + (n + 1))))
      | o => o) else h[b.block]? := Array.getElem?_modify
    unfold hcell
    rw [e0]
    by_cases e : a.block = b.block
    · rw [if_pos e]
      cases hb : h[b.block]? with
      | none => rfl
      | some o => cases o <;> rfl
    · rw [if_neg e]
theorem us_eq (pt ts ty : TypeId) (p : Option Addr) (len_ : Value) : ∃ (x1 x2 : Sem PUnit) (x3 x4 : Sem Value), Builtin.unsafeString_ #[pt, ts] ty #[.pointer p, len_] = (do
    let n ← asInt len_
    if n < 0 then x1
    if n > IntKind.i64.max then x2
    match p with
    | none =>
      if n = 0 then pure (.string .empty)
      else x3
    | some a =>
      if n = 0 then pure (.string .empty)
      else if ← variablesAt a (← elemOf pt) n.toNat then do
        let s ← loadBytes a .empty n.toNat
        freeze a n.toNat
        pure (.string s)
      else x4) := ⟨_, _, _, _, rfl⟩
theorem usd_none (ts : Array TypeId) (ty : TypeId) (l c : Nat) : Builtin.unsafeSliceData_ ts ty #[.slice none l c] = pure (.pointer none) := rfl
theorem usd_some (ts : Array TypeId) (ty : TypeId) (a : Addr) (l c : Nat) : Builtin.unsafeSliceData_ ts ty #[.slice (some a) l c] = (do
    if c ≠ 0 then pure (.pointer (some a))
    else if (← viewAt a.block).isSome then pure (.pointer (some a))
    else pure (.pointer (some ⟨← newObj (.view a (← elemOf ty)), 0, none⟩))) := rfl
theorem ib_eq (b c : Value) : Extern.BytealgIndexByte.indexByte #[b, c] = (do
    let b ← Extern.Bytes.bytesOf b
    let c ← Extern.Bytes.asByte c
    match (List.range b.size).find? fun i => b[i]! == c with
    | some i => pure (goInt i)
    | none => pure (goInt (-1))) := rfl
theorem sb_string {h : Hp} {p : Nat} {s : Sl} {l : List Int} (q : BW h p s l) (hl : l.length ≤ 9223372036854775807) {K : ByteArray → Hp → Prop} (hK : ∀ r h', bts r = l → OnlyP p s h h' → (∀ a, hcell h' a = hcell h a) → h'.size = h.size → K r h') : C_strings_Builder_String (some ⟨p, 0, none⟩) h K := by
  obtain ⟨ad, b1, hh1⟩ := q.b
  have bk : Blk h p #[.pointer ad, .slice s.a s.len s.cap] := ⟨_, b1⟩
  refine F_strings_Builder_String_ok _ _ _ ?_
  refine ldA_blk (s := .sl) (i := 1) (x := s) bk rfl ?_
  have hlen := q.o.row.len
  have hcap := q.o.row.cap
  have hmax : ¬ ((l.length : Int) > IntKind.i64.max) := by
    show ¬ (9223372036854775807 : Int) < _
    omega
  have hneg : ¬ ((l.length : Int) < 0) := by omega
  obtain ⟨sa, sl, sc⟩ := s
  simp only at hlen hcap bk q
  subst hlen
  rcases q.o.own with ⟨h1, h2⟩ | ⟨b, c, h1, h2, h3, h4⟩
  · simp only at h1 h2
    subst h1
    have hl0 : l = [] := List.length_eq_zero_iff.1 (by omega)
    subst hl0
    show smV _ _ _ _ _
    unfold smV
    rw [usd_none]
    refine wpS_pure.2 ⟨none, rfl, Ext.refl _, ldA_blk (s := .sl) (i := 1) (x := ⟨none, 0, sc⟩) bk rfl ?_⟩
    show wpS Try.prog (Builtin.unsafeString_ #[T_Puint8, T_int] T_string #[.pointer none, .int .i64 (([] : List Int).length : Int)]) h _
    obtain ⟨x1, x2, x3, x4, hus⟩ := us_eq T_Puint8 T_int T_string none (.int .i64 (([] : List Int).length : Int))
    rw [hus]
    simp only [wpS_bindI, asInt, asIntOf, wpS_pure, List.getElem?_toArray, List.getElem?_cons_zero, List.length_nil, Int.natCast_zero, hneg, if_false]
    simp only [Int.lt_irrefl, if_false, wpS_bindI, wpS_pure, show ¬ ((0 : Int) > IntKind.i64.max) by decide, if_true]
    exact ⟨ByteArray.empty, rfl, hK _ h rfl (OnlyP.refl _ _ _) (fun _ => rfl) rfl⟩
  · simp only at h1
    subst h1
    have hcz : sc ≠ 0 := by
      rcases q.pos with h | h
      · cases h
      · simp only at h; omega
    unfold smV
    rw [usd_some, if_pos hcz]
    refine wpS_pure.2 ⟨some ⟨b, 0, none⟩, rfl, Ext.refl _, ldA_blk (s := .sl) (i := 1) (x := ⟨some ⟨b, 0, none⟩, l.length, sc⟩) bk rfl ?_⟩
    show wpS Try.prog (Builtin.unsafeString_ #[T_Puint8, T_int] T_string #[.pointer (some ⟨b, 0, none⟩), .int .i64 (l.length : Int)]) h _
    obtain ⟨x1, x2, x3, x4, hus⟩ := us_eq T_Puint8 T_int T_string (some ⟨b, 0, none⟩) (.int .i64 (l.length : Int))
    rw [hus]
    simp only [wpS_bindI, asInt, asIntOf, wpS_pure, List.getElem?_toArray, List.getElem?_cons_zero, hneg, hmax, if_false]
    by_cases hn : l.length = 0
    · have hl0 : l = [] := List.length_eq_zero_iff.1 hn
      subst hl0
      simp only [List.length_nil, Int.natCast_zero, if_true, wpS_pure]
      exact ⟨ByteArray.empty, rfl, hK _ h rfl (OnlyP.refl _ _ _) (fun _ => rfl) rfl⟩
    · have hn' : ¬ ((l.length : Int) = 0) := by omega
      simp only [hn', if_false, Int.toNat_natCast, wpS_bindI]
      unfold elemOf
      simp only [wpS_bindI, wpS_und sb_u3, wpS_pure, wpS_varsAt (a := ⟨b, 0, none⟩) h3, sb_cells8, h4, Nat.mul_one, Nat.div_one]
      have hc4 : c.size = sc := by simpa using h4
      rw [liesAt_plain sb_depth sb_cells8 sb_same8 (d' := 0) (by exact hcap)]
      simp only [if_true, wpS_bindI]
      refine wpS_loadBytes q.by_ (fun i hi => ?_) fun r hr => wpS_freeze.2 (wpS_pure.2 ⟨r, rfl, hK r _ (by simpa [bts] using hr) ⟨by rw [hfreeze_size]; exact Nat.le_refl _, fun i hi hp hs => hfreeze_other (hs ⟨b, 0, none⟩ rfl)⟩ (fun a => hcell_freeze _ _ _ _) hfreeze_size⟩)
      have := q.o.row.get ⟨b, 0, none⟩ i l[i] rfl (List.getElem?_eq_getElem hi) 0 (by simp [encI])
      rw [addr_zero, Nat.mul_one] at this
      rw [this, List.getElem?_eq_getElem hi]; rfl
theorem find_congr {α : Type} {p q : α → Bool} : ∀ {l : List α}, (∀ x ∈ l, p x = q x) → l.find? p = l.find? q
  | [], _ => rfl
  | x :: l, h => by
    rw [List.find?_cons, List.find?_cons, h x (by simp), find_congr (l := l) fun y hy => h y (by simp [hy])]
theorem find_range {l : List Int} {c : Int} : ((List.range l.length).find? fun i => l[i]? == some c) = if c ∈ l then some (l.idxOf c) else none := by
  by_cases h : c ∈ l
  · rw [if_pos h, List.find?_range_eq_some]
    have hi := List.idxOf_lt_length_iff.2 h
    refine ⟨by simp [List.getElem?_eq_getElem hi], by simpa using hi, fun j hj => ?_⟩
    have hjl : j < l.length := by omega
    have := List.not_of_lt_findIdx (p := (· == c)) (xs := l) (i := j) (by simpa [List.idxOf] using hj)
    simp only [List.getElem?_eq_getElem hjl]
    simpa using this
  · rw [if_neg h, List.find?_eq_none]
    intro i hi
    have hi : i < l.length := by simpa using hi
    rw [List.getElem?_eq_getElem hi]
    simp only [beq_iff_eq, Option.some.injEq]
    intro e
    exact h (e ▸ List.getElem_mem hi)
def idxB (l : List Int) (c : Int) : Int := if c ∈ l then (l.idxOf c : Int) else -1
theorem sb_index {s : ByteArray} {c : Int} {h : Hp} {K : Int → Hp → Prop} (hc : 0 ≤ c ∧ c ≤ 255) (hK : K (idxB (bts s) c) h) : C_strings_IndexByte s c h K := by
  refine F_strings_IndexByte_ok _ _ _ _ (F_internal_stringslite_IndexByte_ok _ _ _ _ (E_internal_bytealg_IndexByteString_ok _ _ _ _ ?_))
  rw [ib_eq]
  simp only [wpS_bindI, Extern.Bytes.bytesOf, Extern.Bytes.asByte, wpS_pure]
  have hf : ((List.range s.size).find? fun i => s[i]! == c.toNat.toUInt8) = ((List.range (bts s).length).find? fun i => (bts s)[i]? == some c) := by
    rw [bts_len]
    refine find_congr fun i hi => ?_
    have hi : i < s.size := by simpa using hi
    have : (bts s)[i]? = some ((s[i]).toNat : Int) := by
      unfold bts
      have h : i < s.data.toList.length := by simpa using hi
      rw [List.getElem?_map, List.getElem?_eq_getElem h]; rfl
    rw [this, getElem!_pos s i hi, Bool.eq_iff_iff]
    simp only [beq_iff_eq, Option.some.injEq]
    constructor
    · intro e
      rw [e]
      have : (c.toNat.toUInt8).toNat = c.toNat % 256 := by simp
      rw [this]; omega
    · intro e
      rw [← e]; simp
  rw [hf, find_range]
  unfold idxB at hK
  split
  · rename_i i hi
    split at hi
    · rename_i hm
      rw [if_pos hm] at hK
      cases hi
      exact ⟨(_, ()), rfl, hK⟩
    · cases hi
  · rename_i hi
    split at hi
    · cases hi
    · rename_i hm
      rw [if_neg hm] at hK
      exact ⟨(_, ()), rfl, hK⟩
end Go.Proofs.YtbfjigemklbjfaaF
