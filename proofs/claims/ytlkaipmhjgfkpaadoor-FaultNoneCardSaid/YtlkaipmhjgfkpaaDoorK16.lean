/- The sixteenth part of the layer: words of bits; texts appended. No condition. -/
import Derived.Test.YtlkaipmhjgfkpaaDoorK15
namespace Go.Proofs.YtlkaipmhjgfkpaaDoorK
open Go Go.RowKit
set_option linter.unusedSimpArgs false
set_option linter.unusedVariables false

theorem or8_fin : ∀ b : Fin 256, ibOr .u8 ((b.val : Nat) : Int) 128 = ((b.val % 128 + 128 : Nat) : Int) := by decide +kernel
theorem and8_fin : ∀ b : Fin 256, ibAnd .u8 ((b.val : Nat) : Int) 127 = ((b.val % 128 : Nat) : Int) := by decide +kernel
theorem wrap_u8_nat (m : Nat) : IntKind.wrap .u8 (m : Int) = ((m % 256 : Nat) : Int) := by
  simp only [IntKind.wrap, IntKind.bits, IntKind.signed]
  simp
theorem or8 (m : Nat) : ibOr .u8 (IntKind.wrap .u8 (m : Int)) 128 = ((m % 128 + 128 : Nat) : Int) := by
  rw [wrap_u8_nat, or8_fin ⟨m % 256, by omega⟩]
  simp only
  rw [show m % 256 % 128 = m % 128 by omega]
theorem and8 {c : Nat} (h : c < 256) : ibAnd .u8 (c : Int) 127 = ((c % 128 : Nat) : Int) := and8_fin ⟨c, h⟩
theorem ofInt64 (n : Nat) : (BitVec.ofInt 64 (n : Int)).toNat = n % 18446744073709551616 := by
  rw [BitVec.toNat_ofInt]
  show ((n : Int) % 18446744073709551616).toNat = _
  omega
theorem or64 {a i c : Nat} (ha : a < 2 ^ i) (h : c * 2 ^ i + a < 18446744073709551616) : ibOr .u64 (a : Int) ((c * 2 ^ i : Nat) : Int) = ((a + c * 2 ^ i : Nat) : Int) := by
  show IntKind.wrap .u64 (((BitVec.ofInt 64 (a : Int) ||| BitVec.ofInt 64 ((c * 2 ^ i : Nat) : Int)).toNat : Nat) : Int) = _
  rw [BitVec.toNat_or, ofInt64, ofInt64, Nat.mod_eq_of_lt (show a < 18446744073709551616 by omega), Nat.mod_eq_of_lt (show c * 2 ^ i < 18446744073709551616 by omega), Nat.or_comm, Nat.mul_comm c, ← Nat.two_pow_add_eq_or_of_lt ha, Nat.mul_comm _ c]
  rw [wrap_u64 (by omega) (by omega)]
  congr 1; omega
theorem and64_1 {n : Nat} (h : n < 18446744073709551616) : ibAnd .u64 (n : Int) 1 = ((n % 2 : Nat) : Int) := by
  show IntKind.wrap .u64 (((BitVec.ofInt 64 (n : Int) &&& BitVec.ofInt 64 ((1 : Nat) : Int)).toNat : Nat) : Int) = _
  rw [BitVec.toNat_and, ofInt64, ofInt64, Nat.mod_eq_of_lt h, Nat.mod_eq_of_lt (show 1 < 18446744073709551616 by decide), Nat.and_one_is_mod, wrap_u64 (by omega) (by omega)]
theorem not64 {n : Nat} (h : n < 18446744073709551616) : ibNot .u64 (n : Int) = ((18446744073709551615 - n : Nat) : Int) := by
  show IntKind.wrap .u64 (((BitVec.ofInt 64 ((18446744073709551615 : Nat) : Int) ^^^ BitVec.ofInt 64 (n : Int)).toNat : Nat) : Int) = _
  have e : BitVec.ofInt 64 ((18446744073709551615 : Nat) : Int) = BitVec.allOnes 64 := by decide +kernel
  rw [e, BitVec.allOnes_xor, BitVec.toNat_not, ofInt64, Nat.mod_eq_of_lt h]
  show IntKind.wrap .u64 (((18446744073709551615 - n : Nat) : Nat) : Int) = _
  rw [wrap_u64 (by omega) (by omega)]

/-- A text's bytes as numbers. -/
def bts (s : ByteArray) : List Int := s.data.toList.map fun b => (b.toNat : Int)
theorem bts_len (s : ByteArray) : (bts s).length = s.size := by unfold bts; rw [List.length_map, Array.length_toList]; rfl
theorem bts_flat (s : ByteArray) : (bts s).flatMap (encI .u8) = s.data.toList.map fun b => Value.int .u8 b.toNat := by
  unfold bts
  rw [flat_one (enc := encI .u8) (f := fun x => Value.int .u8 x) (fun x => rfl), List.map_map]; rfl
theorem app_text {B : Nat} {h : Hp} {s : Sl} {l : List Int} (own : OwnRow (encI .u8) 1 B h s l) (hB : B ≤ h.size) {e : TypeId} {zero : List Value} {t : ByteArray} (hb : l.length + t.size ≤ 140737488355328) (hz : zero.length = 1)
    {K : Sl → Hp → Prop} (hk : ∀ s' h', OwnRow (encI .u8) 1 B h' s' (l ++ bts t) → OnlyS s h h' → (s'.a = s.a ∨ ∃ b, s'.a = some ⟨b, 0, none⟩ ∧ h.size ≤ b) → K s' h') : appS e 1 1 zero s.a s.len s.cap (.string t) h K :=
  app_any (encI_ok _) (by decide) own hB (ys := bts t) (by rw [bts_len]; omega) (by decide) hz (fun K hK => by show K t.size; rw [← bts_len]; exact hK) (fun K hK => by rw [bts_flat] at hK; exact hK) hk

theorem rd_text {P : Program} {h : Hp} {n : Nat} {t : TypeId} {m : Nat} {s : ByteArray} (ht : P.underlying t = some .string) (r : Rd P h n t [.string s] m) : s.size + 1 ≤ m ∧ s.size ≤ reachBytes := by
  cases n with
  | zero => exact r.elim
  | succ n =>
    unfold Rd at r
    obtain ⟨_, r⟩ := r
    rw [ht] at r
    obtain ⟨s', es, h1, h2⟩ := r
    obtain rfl : s = s' := by simpa using es
    exact ⟨h2, h1⟩
theorem mem_le_sum : ∀ {l : List Nat} {i m : Nat}, l[i]? = some m → m ≤ l.sum
  | [], _, _, h => by cases h
  | x :: l, 0, m, h => by simp at h; subst h; simp
  | x :: l, i + 1, m, h => by have := mem_le_sum (l := l) (i := i) (m := m) (by simpa using h); simp; omega
theorem OwnRow.weaken {α : Type} {enc : α → List Value} {size B B' : Nat} {h : Hp} {s : Sl} {l : List α} (r : OwnRow enc size B h s l) (hB : B' ≤ B) : OwnRow enc size B' h s l :=
  ⟨r.row, r.own.imp id fun ⟨b, c, e, h1, h2, h3, h4⟩ => ⟨b, c, e, h1, by omega, h3, h4⟩⟩
theorem IsRow.onlyS {α : Type} {enc : α → List Value} {size : Nat} {h h' : Hp} {s t : Sl} {l : List α} (r : IsRow enc size h t l) (u : OnlyS s h h') (hlt : ∀ a, t.a = some a → a.block < h.size) (ht : ∀ c, s.a = some c → ∀ a, t.a = some a → a.block ≠ c.block) : IsRow enc size h' t l :=
  ⟨r.len, r.cap, r.at_, fun a i x ha hx j hj => by
    have := r.get a i x ha hx j hj
    rw [← this]
    unfold hcell
    rw [add_block, add_block, u.2 _ (hlt a ha) fun c hc => ht c hc a ha]⟩
theorem OwnRow.onlyS {α : Type} {enc : α → List Value} {size B : Nat} {h h' : Hp} {s t : Sl} {l : List α} (r : OwnRow enc size B h t l) (u : OnlyS s h h') (ht : ∀ c, s.a = some c → ∀ a, t.a = some a → a.block ≠ c.block) : OwnRow enc size B h' t l := by
  refine ⟨r.row.onlyS u r.lt ht, r.own.imp id fun ⟨b, c, e, e1, e2, e3, e4⟩ => ⟨b, c, e, e1, e2, ?_, e4⟩⟩
  rw [u.2 b (block_lt e3) fun c hc => ht c hc _ e1]; exact e3
/-- A clone: of nothing nothing, else a row of its own. -/
theorem clone_to {α : Type} {enc : α → List Value} {size : Nat} (hE : Enc enc size) (hsz : 0 < size) {h : Hp} {s : Sl} {l : List α} (r : IsRow enc size h s l) {e : TypeId} {bytes : Nat} {zero : List Value} (hb : l.length * bytes ≤ 140737488355328) (hb2 : 0 < bytes ∧ bytes ≤ 65536) (hz : zero.length = size)
    {K : Sl → Hp → Prop} (hk : ∀ s' h', OwnRow enc size h.size h' s' l → Ext h h' → K s' h') : cnd (Option.isNone s.a) (K (Sl.mk none 0 0) h) (Let (Array.push h (Obj.cells #[] e)) fun (h1 : Hp) => Let (Addr.mk (Array.size h) 0 none) fun p => appS e size bytes zero (some p) 0 0 (.slice s.a s.len s.cap) h1 K) := by
  refine cnd_if (fun hn => ?_) fun hs => ?_
  · have hl : l = [] := Classical.byContradiction fun hne => by
      obtain ⟨a, ha⟩ := r.at_ hne
      rw [ha] at hn; cases hn
    subst hl
    exact hk _ h (OwnRow.nil _ _ _ _) (Ext.refl _)
  · refine push_to fun h1 b1 e1 z1 => let_to ?_
    have own : OwnRow enc size h.size h1 ⟨some ⟨h.size, 0, none⟩, 0, 0⟩ ([] : List α) := by
      obtain ⟨el, hb1⟩ := b1
      exact ⟨⟨rfl, Nat.le_refl _, fun hne => (hne rfl).elim, fun a i x ha hx => by cases hx⟩, .inr ⟨h.size, #[], el, rfl, Nat.le_refl _, hb1, by simp⟩⟩
    refine app_row hE hsz own (r.ext e1) (by omega) (by simpa using hb) hb2 hz fun s' h2 o2 u2 _ => hk s' h2 (by simpa using o2) ?_
    exact ⟨Nat.le_trans e1.size u2.1, fun i hi => (u2.2 i (by omega) fun a ha => by cases ha; exact Nat.ne_of_lt hi).trans (e1.get i hi)⟩
end Go.Proofs.YtlkaipmhjgfkpaaDoorK
