/- The fourteenth part of the layer: an element of a row written whole; function values that order. No condition. -/
import Derived.Test.YtlkaipmhjgfkpaaDoorK13
namespace Go.Proofs.YtlkaipmhjgfkpaaDoorK
open Go Go.RowKit
set_option linter.unusedSimpArgs false
set_option linter.unusedVariables false

theorem stores_at {b o : Nat} {K : Hp → Prop} : ∀ {vs : List Value} {h : Hp} {i : Nat} {c : Array Value} {e : TypeId}, h[b]? = some (.cells c e (0, 0)) → o + i + vs.length ≤ c.size →
    (∀ h', h'[b]? = some (.cells (setMany c (o + i) vs) e (0, 0)) → Only b h h' → RKeep h h' → h'.size = h.size → K h') → stores h ⟨b, o, none⟩ i vs K
  | [], h, i, c, e, r, hi, hk => hk h r (Only.refl _ _) (RKeep.refl _) rfl
  | v :: vs, h, i, c, e, r, hi, hk => by
    simp only [List.length_cons] at hi
    unfold stores
    rw [add_mk]
    refine stC_blk ⟨e, r⟩ (by omega) ?_
    refine stores_at (hset_block r) (by rw [Array.size_setIfInBounds]; omega) fun h2 b2 o2 k2 z2 => hk h2 ?_ ((hset_only h ⟨b, o + i, none⟩ v).trans o2) ((RKeep.set _ _ _).trans k2) (by rw [z2, hset_size])
    rw [setMany]
    exact b2
/-- 's[i] = x', an element of any size. -/
theorem own_put {α : Type} {enc : α → List Value} {size : Nat} (hE : Enc enc size) (hsz : 0 < size) {B : Nat} {h : Hp} {s : Sl} {l : List α} (own : OwnRow enc size B h s l) {i : Int} {k : Nat} (hi : i = k) (hk : k < l.length) (x : α) {K : Hp → Prop}
    (hK : ∀ h', OwnRow enc size B h' s (l.set k x) → OnlyS s h h' → RKeep h h' → h'.size = h.size → K h') : idxS s.a s.len i size fun p => stores h p 0 (enc x) K := by
  subst hi
  rcases own.own with ⟨h1, h2⟩ | ⟨b, c, e, h1, h2, h3, h4⟩
  · have := own.row.len; have := own.row.cap; omega
  · refine ⟨⟨by omega, by rw [own.row.len]; omega⟩, ?_⟩
    rw [h1]
    show stores h (Addr.add ⟨b, 0, none⟩ _) 0 (enc x) K
    simp only [Int.toNat_natCast, add_mk, Nat.zero_add]
    have hcap := own.row.cap
    have hlen := own.row.len
    have hks : (k + 1) * size ≤ s.cap * size := Nat.mul_le_mul_right _ (by omega)
    rw [Nat.add_mul, Nat.one_mul] at hks
    refine stores_at h3 (by rw [hE.len, h4]; omega) fun h' b' o' k' z' => hK h' ⟨?_, .inr ⟨b, _, e, h1, h2, b', by rw [setMany_size]; exact h4⟩⟩ ⟨by omega, fun j hj hn => o'.get j hj (hn ⟨b, 0, none⟩ h1)⟩ k' z'
    have hr : s = ⟨some ⟨b, 0, none⟩, s.len, s.cap⟩ := by cases s; simp only at h1; subst h1; rfl
    rw [hr]
    refine isRow_block hE b' (by simp [hlen]) hcap fun j hj => ?_
    rw [List.length_set] at hj
    have hq : j / size < l.length := (Nat.div_lt_iff_lt_mul hsz).2 hj
    have hm : j % size < size := Nat.mod_lt _ hsz
    have hcs : j < c.size := by
      have : l.length * size ≤ s.cap * size := Nat.mul_le_mul_right _ (by omega)
      omega
    rw [setMany_get, Nat.add_zero, hE.len]
    by_cases e1 : j / size = k
    · have hx : (l.set k x)[j / size]? = some x := by rw [e1, List.getElem?_set_self hk]
      have hf := flat_get hE hx hm
      rw [Nat.div_add_mod'] at hf
      have hj2 : j = k * size + j % size := by rw [← e1, Nat.div_add_mod']
      rw [if_pos ⟨by omega, by omega, hcs⟩, hf, show j - k * size = j % size by omega]
    · have hne : ¬ (k * size ≤ j ∧ j < k * size + size ∧ j < c.size) := by
        rintro ⟨h5, h6, _⟩
        apply e1
        exact Nat.div_eq_of_lt_le h5 (by rw [Nat.add_mul, Nat.one_mul]; exact h6)
      rw [if_neg hne]
      have hx : l[j / size]? = some l[j / size] := List.getElem?_eq_getElem hq
      have hx2 : (l.set k x)[j / size]? = some l[j / size] := by rw [List.getElem?_set_ne (fun e => e1 e.symm)]; exact hx
      have hf := flat_get hE hx2 hm
      rw [Nat.div_add_mod'] at hf
      have hg := own.row.get ⟨b, 0, none⟩ (j / size) _ h1 hx (j % size) (by rw [hE.len]; exact hm)
      rw [add_mk, add_mk, hcell_of h3, Nat.zero_add, Nat.div_add_mod'] at hg
      rw [hf, hg]
/-- A function value that compares. -/
def OrdV (P : Program) {α : Type} (v : Value) (arg : α → Value) (cmp : α → α → Int) : Prop :=
  oneCell v = true ∧ ∀ x y (h : Hp) (K : Int → Hp → Prop), (∀ h', Ext h h' → K (cmp x y) h') → callV P v [arg x, arg y] [.at (.int .i64)] h fun s h' => K s.1 h'
theorem oneA_of {v : Value} (h : oneCell v = true) {K : Value → Prop} (hk : K v) : oneA v K := by
  cases v <;> first | exact hk | (simp [oneCell] at h; done)
theorem callV_func {P : Program} {f : FuncId} {args : List Value} {shs : List Sh} {h : Hp} {K : St shs → Hp → Prop} (he : entered P f = true) (hc : CallT P f args shs h K) : callV P (.func (.func f) #[] #[]) args shs h K := by
  unfold callV callK
  simp only [he]
  have : (#[] ++ args.toArray ++ #[] : Array Value) = args.toArray := by simp
  rw [this]; exact hc
end Go.Proofs.YtlkaipmhjgfkpaaDoorK
