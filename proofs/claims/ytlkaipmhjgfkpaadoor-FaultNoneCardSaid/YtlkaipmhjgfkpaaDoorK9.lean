/- The ninth part of the layer: what it means for memory that an argument can be read as data. No condition. -/
import Derived.Test.YtlkaipmhjgfkpaaDoorK8
import Derived.Carry
import Derived.SizedLaws
import Derived.ChangeArms
import Derived.OpenShut
namespace Go.Proofs.YtlkaipmhjgfkpaaDoorK
open Go Go.RowKit
set_option linter.unusedSimpArgs false
set_option linter.unusedVariables false

def cellsAt (h : Hp) (a : Addr) (cs : List Value) : Prop := ∀ j, j < cs.length → hcell h (a.add j) = cs[j]?
def sumTo (n : Nat) (f : Nat → Nat) : Nat := ((List.range n).map f).sum
/-- The cells of a value of a type, and all that it leads to (numbers, truths, texts, slices, structs, arrays; of other kinds nothing is said); m bounds how many values and letters it holds. -/
def Rd (P : Program) (h : Hp) : Nat → TypeId → List Value → Nat → Prop
  | 0, _, _, _ => False
  | n + 1, t, cs, m => 1 ≤ m ∧ match P.underlying t with
    | some .bool => ∃ b, cs = [.bool b]
    | some (.int k) => ∃ x, cs = [.int k x] ∧ (Lit.int k x).wf = true
    | some .string => ∃ s : ByteArray, cs = [.string s] ∧ s.size ≤ reachBytes ∧ s.size + 1 ≤ m
    | some (.slice e) => cs = [.slice none 0 0] ∨ ∃ a len cap, cs = [.slice (some a) len cap] ∧ len ≤ cap ∧ cap * P.bytesOf e ≤ reachBytes ∧
        ∃ ms, sumTo cap ms + 1 ≤ m ∧ ∀ i, i < cap → ∃ es, es.length = P.cellsOf e ∧ cellsAt h (a.add (i * P.cellsOf e)) es ∧ Rd P h n e es (ms i)
    | some (.struct fs) => cs.length = P.cellsOf t ∧ ∃ ms : List Nat, ms.length = fs.size ∧ ms.sum + 1 ≤ m ∧ ∀ (i : Nat) (f : Field), fs[i]? = some f → ∃ mi, ms[i]? = some mi ∧ Rd P h n f.type ((cs.drop f.offset).take (P.cellsOf f.type)) mi
    | some (.array k e) => cs.length = P.cellsOf t ∧ ∃ ms : List Nat, ms.length = k ∧ ms.sum + 1 ≤ m ∧ ∀ i : Nat, i < k → ∃ mi, ms[i]? = some mi ∧ Rd P h n e ((cs.drop (i * P.cellsOf e)).take (P.cellsOf e)) mi
    | _ => True

/-- A count of values and letters. -/
structure Bulk {H : Type} (B : DataW H → Nat) : Prop where
  one : ∀ d, 1 ≤ B d
  str : ∀ b, b.length + 1 ≤ B (.lit (.string b))
  slice : ∀ es sp, (es.map B).sum + (sp.map B).sum + 1 ≤ B (.slice es sp)
  agg : ∀ ps, (ps.map B).sum + 1 ≤ B (.agg ps)
mutual
def blk {H : Type} : DataW H → Nat
  | .lit (.string b) => b.length + 1
  | .slice es sp => blkAll es + blkAll sp + 1
  | .agg ps => blkAll ps + 1
  | _ => 1
def blkAll {H : Type} : List (DataW H) → Nat
  | [] => 0
  | d :: r => blk d + blkAll r
end
theorem blkAll_sum {H : Type} : ∀ l : List (DataW H), blkAll l = (l.map blk).sum
  | [] => by simp [blkAll]
  | d :: r => by simp [blkAll, blkAll_sum r]
theorem blk_ok {H : Type} : Bulk (H := H) blk where
  one d := by cases d <;> first | (simp [blk]; done) | (rename_i l; cases l <;> simp [blk])
  str b := by simp [blk]
  slice es sp := by simp [blk, blkAll_sum]
  agg ps := by simp [blk, blkAll_sum]

theorem mapM_get {α β : Type} {f : α → Option β} : ∀ {l : List α} {ys : List β}, l.mapM f = some ys → ys.length = l.length ∧ ∀ (i : Nat) (x : α), l[i]? = some x → ∃ y, f x = some y ∧ ys[i]? = some y
  | [], ys, h => by simp at h; subst h; exact ⟨rfl, fun i x hx => (by cases hx)⟩
  | x :: l, ys, h => by
    simp only [List.mapM_cons, Option.bind_eq_bind, Option.bind_eq_some_iff, Option.pure_def, Option.some.injEq] at h
    obtain ⟨y, hy, ys', hys, rfl⟩ := h
    obtain ⟨h1, h2⟩ := mapM_get hys
    refine ⟨by simp [h1], fun i z hz => ?_⟩
    cases i with
    | zero => simp at hz; subst hz; exact ⟨y, hy, rfl⟩
    | succ i => obtain ⟨u, hu, hu'⟩ := h2 i z (by simpa using hz); exact ⟨u, hu, by simpa using hu'⟩

theorem cells_get {w : World} {a : Addr} {n : Nat} {cs : List Value} (h : w.cells? 0 a n = some cs) : cs.length = n ∧ cellsAt w.heap a cs := by
  unfold World.cells? at h
  rw [if_pos (Nat.zero_le _)] at h
  obtain ⟨h1, h2⟩ := mapM_get h
  simp at h1
  refine ⟨h1, fun j hj => ?_⟩
  obtain ⟨y, hy, hy'⟩ := h2 j j (by rw [List.getElem?_range (by omega)])
  rw [hy', ← hy]; rfl

theorem weightsAll_mem {H : Type} {P : Program} {e : TypeId} : ∀ {ds : List (DataW H)} {d : DataW H}, d ∈ ds → ∀ n ∈ d.weights P e, n ∈ DataW.weightsAll P e ds
  | d0 :: ds, d, hd, n, hn => by
    simp only [DataW.weightsAll, List.mem_append]
    rcases List.mem_cons.1 hd with rfl | hd
    · exact .inl hn
    · exact .inr (weightsAll_mem hd n hn)

theorem sum_append_range (B : Nat → Nat) (m n : Nat) : sumTo (m + n) B = sumTo m B + ((List.range n).map fun j => B (m + j)).sum := by
  unfold sumTo
  rw [List.range_add, List.map_append, List.sum_append, List.map_map]
  rfl

theorem rd_of {H : Type} {enc : TypeId × Value → H} {P : Program} {w : World} {B : DataW H → Nat} (hB : Bulk B) : ∀ (fuel : Nat) {t : TypeId} {cs : List Value} {x : DataW H × List MemPlace}, DataW.trod enc P w 0 (fun _ => true) true fuel t cs = some x →
    (∀ n ∈ x.1.weights P t, n ≤ reachBytes) → Rd P w.heap fuel t cs (B x.1)
  | 0, t, cs, x, h, _ => by cases h
  | fuel + 1, t, cs, x, h, hw => by
    unfold Rd
    refine ⟨hB.one _, ?_⟩
    split
    · rename_i ht
      obtain ⟨b, rfl, _⟩ := DataW.trod_bool ht h
      exact ⟨b, rfl⟩
    · rename_i k ht
      obtain ⟨n, rfl, _, hn⟩ := DataW.trod_int ht h
      exact ⟨n, rfl, hn⟩
    · rename_i ht
      obtain ⟨s, rfl, rfl, hs⟩ := DataW.trod_string ht h
      have := hw s.data.toList.length (by simp only [DataW.weights, List.mem_singleton])
      have hsz : s.data.toList.length = s.size := by rw [Array.length_toList]; rfl
      rw [hsz] at this
      exact ⟨s, rfl, this, by have := hB.str s.data.toList; rw [hsz] at this; exact this⟩
    · rename_i e ht
      rcases DataW.trod_slice ht h with ⟨rfl, _⟩ | ⟨a, len, cap, elems, rest, n, hn, rfl, rfl, _, hlen, hcap, hel, hE, hR, _⟩
      · exact .inl rfl
      · obtain ⟨hrl, hR⟩ := hR rfl
        cases hn
        have hlen2 : elems.length + rest.length = cap := by omega
        have hw1 := hw ((elems.length + rest.length) * P.bytesOf e) (by simp only [DataW.weights, ht, List.mem_cons, true_or, List.length_map])
        rw [hlen2] at hw1
        refine .inr ⟨a, len, cap, rfl, hlen, hw1, fun i => ((elems ++ rest)[i]?.map fun x => B x.1).getD 0, ?_, fun i hi => ?_⟩
        · have hs := hB.slice (elems.map (·.1)) (rest.map (·.1))
          have : sumTo cap (fun i => ((elems ++ rest)[i]?.map fun x => B x.1).getD 0) = (((elems ++ rest).map (·.1)).map B).sum := by
            unfold sumTo
            congr 1
            apply List.ext_getElem
            · simp; omega
            · intro i h1 h2
              simp at h1 h2
              have hlt : i < (elems ++ rest).length := by simp; omega
              rw [List.getElem_map, List.getElem_map, List.getElem_map, List.getElem_range, List.getElem?_eq_getElem hlt]; rfl
          rw [this, List.map_append, List.map_append, List.sum_append]
          exact hs
        · have hb : (w.cells? 0 (a.add (i * P.cellsOf e)) (P.cellsOf e)).bind (DataW.trod enc P w 0 (fun _ => true) true fuel e) = (elems ++ rest)[i]? := by
            by_cases hil : i < len
            · rw [List.getElem?_append_left (by omega)]; exact hE i hil
            · rw [List.getElem?_append_right (by omega)]
              have := hR (i - len) (by omega)
              rw [show len + (i - len) = i by omega] at this
              rw [hel]; exact this
          have hlt : i < (elems ++ rest).length := by simp; omega
          rw [List.getElem?_eq_getElem hlt] at hb
          obtain ⟨es, hes, htr⟩ := Option.bind_eq_some_iff.1 hb
          obtain ⟨h1, h2⟩ := cells_get hes
          refine ⟨es, h1, h2, ?_⟩
          have hmem : (elems ++ rest)[i] ∈ elems ++ rest := List.getElem_mem hlt
          have := rd_of hB fuel htr (fun n hn => by
            refine hw n ?_
            simp only [DataW.weights, ht, List.mem_cons, List.mem_append]
            refine .inr ?_
            rcases List.mem_append.1 hmem with hm | hm
            · exact .inl (weightsAll_mem (List.mem_map.2 ⟨_, hm, rfl⟩) n hn)
            · exact .inr (weightsAll_mem (List.mem_map.2 ⟨_, hm, rfl⟩) n hn))
          show Rd P w.heap fuel e es ((Option.map (fun x => B x.1) (elems ++ rest)[i]?).getD 0)
          rw [List.getElem?_eq_getElem hlt]; exact this
    · rename_i fs ht
      obtain ⟨xs, n, hn, rfl, hl, hxl, hf⟩ := DataW.trod_struct ht h
      cases hn
      refine ⟨hl, (xs.map (·.1)).map B, by simp [hxl], hB.agg _, fun i f hfi => ?_⟩
      have hil : i < xs.length := by rw [hxl]; exact (Array.getElem?_eq_some_iff.1 hfi).1
      have hx := hf i f hfi
      rw [List.getElem?_eq_getElem hil] at hx
      refine ⟨B xs[i].1, by simp [List.getElem?_eq_getElem hil], rd_of hB fuel hx fun n hn => hw n ?_⟩
      simp only [DataW.weights, ht]
      exact DataW.weights_mem_each (j := i) (t := f.type) (d := xs[i].1) (by simp [hfi]) (by simp [List.getElem?_eq_getElem hil]) n hn
    · rename_i k e ht
      obtain ⟨xs, n, hn, rfl, hl, hxl, hf⟩ := DataW.trod_array ht h
      cases hn
      refine ⟨hl, (xs.map (·.1)).map B, by simp [hxl], hB.agg _, fun i hi => ?_⟩
      have hil : i < xs.length := by omega
      have hx := hf i hi
      rw [List.getElem?_eq_getElem hil] at hx
      refine ⟨B xs[i].1, by simp [List.getElem?_eq_getElem hil], rd_of hB fuel hx fun n hn => hw n ?_⟩
      simp only [DataW.weights, ht]
      exact weightsAll_mem (List.mem_map.2 ⟨_, List.getElem_mem hil, rfl⟩) n hn
    · trivial
/-- An argument that can be read, as memory has it. -/
def Arg (P : Program) (h : Hp) (t : TypeId) (v : Value) (m : Nat) : Prop := ∃ fuel, Rd P h fuel t v.cells.toList m
theorem arg_of {H : Type} {enc : TypeId × Value → H} {P : Program} {w : World} {B : DataW H → Nat} (hB : Bulk B) {t : TypeId} {v : Value} {d : DataW H} {ps : List MemPlace} (h : DataW.Trod enc P w 0 (fun _ => true) true t v d ps)
    (hw : ∀ n ∈ d.weights P t, n ≤ reachBytes) : Arg P w.heap t v (B d) := by
  obtain ⟨fuel, h⟩ := h
  exact ⟨fuel, rd_of hB fuel h hw⟩
end Go.Proofs.YtlkaipmhjgfkpaaDoorK
