/- Chapter 15: things put and cut. No condition. -/
import Derived.Test.YthnkmmnipihkeaaStoreW
namespace Go.Proofs.YthnkmmnipihkeaaF
open Go Go.Proofs.YthnkmmnipihkeaaK
set_option linter.unusedSimpArgs false
set_option linter.unusedVariables false

def aL (p : Nat) (l f : Sl) : List Nat := p :: ((l.a.map (·.block)).toList ++ (f.a.map (·.block)).toList)
theorem aL_mem {p : Nat} {l f : Sl} {b : Nat} : b ∈ aL p l f ↔ afp p l f b := by
  unfold aL afp
  simp only [List.mem_cons, List.mem_append, Option.mem_toList, Option.map_eq_some_iff]
theorem AGrow.extS {p : Nat} {l f l' f' : Sl} {h h' : Hp} (g : AGrow p l f l' f' h h') : ExtS (aL p l f) h h' := ⟨g.size, fun b hb hn => g.get b hb fun h => hn (aL_mem.2 h)⟩
theorem ext_extS {S : List Nat} {h h' : Hp} (x : Ext h h') : ExtS S h h' := ⟨x.size, fun b hb _ => x.get b hb⟩
theorem afp_nw {p : Nat} {l f l' f' : Sl} {n : Nat} (h1 : Nw n l l') (h2 : Nw n f f') {b : Nat} (h : afp p l' f' b) : afp p l f b ∨ n ≤ b := by
  rcases h with h | ⟨a, ha, e⟩ | ⟨a, ha, e⟩
  · exact .inl (.inl h)
  · rcases h1 a ha with ⟨c, hc, e2⟩ | h3
    · exact .inl (.inr (.inl ⟨c, hc, e2.trans e⟩))
    · exact .inr (e ▸ h3)
  · rcases h2 a ha with ⟨c, hc, e2⟩ | h3
    · exact .inl (.inr (.inr ⟨c, hc, e2.trans e⟩))
    · exact .inr (e ▸ h3)
theorem dfp_nw {p : Nat} {s s' : Sl} {n : Nat} (h1 : s'.a = s.a ∨ ∃ b, s'.a = some ⟨b, 0, none⟩ ∧ n ≤ b) {b : Nat} (h : dfp p s' b) : dfp p s b ∨ n ≤ b := by
  rcases h with h | ⟨a, ha, e⟩
  · exact .inl (.inl h)
  · rcases h1 with h1 | ⟨c, hc, hn⟩
    · exact .inl (.inr ⟨a, h1 ▸ ha, e⟩)
    · rw [hc] at ha; cases ha; exact .inr (e ▸ hn)
theorem DGrow.get {p : Nat} {s s' : Sl} {h h' : Hp} (u : DGrow p s s' h h') {b : Nat} (hb : b < h.size) (hn : ¬ dfp p s b) : h'[b]? = h[b]? :=
  u.1.2 b hb (fun e => hn (.inl e)) fun a ha e => hn (.inr ⟨a, ha, e.symm⟩)

theorem nodup_ins {α β : Type} (f : α → β) {l : List α} {x : α} {n : Nat} (h : (l.map f).Nodup) (hn : f x ∉ l.map f) : ((insAt l n x).map f).Nodup :=
  ((insAt_perm l n x).map f).nodup_iff.2 (List.nodup_cons.2 ⟨hn, h⟩)
theorem insAt_mem {α : Type} {l : List α} {x y : α} {n : Nat} : y ∈ insAt l n x ↔ y = x ∨ y ∈ l := by rw [(insAt_perm l n x).mem_iff, List.mem_cons]

/-- What is put in: what the arena did, put together. -/
theorem put_end {h h1 h2 h3 : Hp} {p : Nat} {S : SP} {its : List It} (q : SW h p S its) (x1 : Ext h h1) {it : It} {v : Sl} {l' f' ds' : Sl} {slots' : List (StA ST)} {F' : List Int} {k : Nat}
    (hok : it.ob.ok) (ov : OwnRow e32 1 h.size h1 v it.ob.vec) (qa : AW h2 S.la l' f' slots' F') (ga : AGrow S.la S.l S.f l' f' h1 h2)
    (hid : it.id ∉ S.d.map rId) (qd : DW h3 S.da ds' (insAt S.d (rk (S.d.map rId) it.id) (it.id, (k : Int), ()))) (gd : DGrow S.da S.ds ds' h2 h3)
    (hk : slots'[k]? = some (true, it.ob.tag, v, it.ob.str, ())) (hold : ∀ (j : Nat) y, S.slots[j]? = some y → sU y = true → j ≠ k ∧ slots'[j]? = some y) (hkn : ∀ y, S.slots[k]? = some y → sU y = false)
    (hfree : ∀ x ∈ F', ∃ k : Nat, x = k ∧ ∃ y, slots'[k]? = some y ∧ sU y = false) (hfnd : F'.Nodup) (hcnt : slots'.length = S.d.length + 1 + F'.length) :
    ∃ S', SW h3 p S' (insAt its (rk (its.map (·.id)) it.id) it) ∧ SGrow p S S' h h3 ∧ S'.slots = slots' := by
  have hsz1 := x1.size
  have hsz2 := ga.size
  have hsz3 := gd.1.1
  have q1 := q.ext x1
  have hvb : ∀ a, v.a = some a → h.size ≤ a.block ∧ a.block < h1.size := fun a ha => ⟨ov.above a ha, ov.lt a ha⟩
  have faO : ∀ b, afp S.la l' f' b → S.fa b ∨ h1.size ≤ b := fun b hb => afp_nw ga.nl ga.nf hb
  have fdO : ∀ b, dfp S.da ds' b → S.fd b ∨ h2.size ≤ b := fun b hb => dfp_nw gd.2 hb
  have faL := q.A.lt
  have fdL := q.D.fplt
  have faL2 := qa.lt
  have hpb := q.b.lt
  -- blocks that stay from h to h3
  have stay : ∀ b, b < h1.size → ¬ S.fa b → ¬ S.fd b → h3[b]? = h1[b]? := fun b hb h4 h5 => by rw [gd.get (by omega) h5, ga.get b hb h4]
  refine ⟨⟨S.la, S.da, l', f', ds', slots', F', insAt S.d (rk (S.d.map rId) it.id) (it.id, (k : Int), ()), fun b => S.vb b ∨ ∃ a, v.a = some a ∧ a.block = b⟩, ⟨?_, ?_, qd, ?_, ?_, ?_, ?_, ?_, ?_, hfree, hfnd, ?_⟩, ⟨by omega, ?_, ?_⟩, rfl⟩
  · obtain ⟨e, hb⟩ := q1.b
    exact ⟨e, by rw [stay p (by omega) q.pa q.pd]; exact hb⟩
  · refine qa.keep fun b hb => gd.get (faL2 b hb) fun hd => ?_
    rcases faO b hb with h4 | h4
    · exact q.ad b h4 hd
    · have := fdL b hd; omega
  · intro hp
    rcases faO p hp with h4 | h4
    · exact q.pa h4
    · omega
  · intro hp
    rcases fdO p hp with h4 | h4
    · exact q.pd h4
    · omega
  · intro b hb hd
    have := faL2 b hb
    rcases faO b hb with h4 | h4
    · rcases fdO b hd with h5 | h5
      · exact q.ad b h4 h5
      · omega
    · rcases fdO b hd with h5 | h5
      · have := fdL b h5; omega
      · omega
  · rintro b (hb | ⟨a, ha, rfl⟩)
    · obtain ⟨v1, v2, v3, v4⟩ := q.vs b hb
      refine ⟨by omega, v2, fun h4 => ?_, fun h4 => ?_⟩
      · rcases faO b h4 with h5 | h5
        · exact v3 h5
        · omega
      · rcases fdO b h4 with h5 | h5
        · exact v4 h5
        · omega
    · obtain ⟨v1, v2⟩ := hvb a ha
      refine ⟨by omega, by omega, fun h4 => ?_, fun h4 => ?_⟩
      · rcases faO _ h4 with h5 | h5
        · have := faL _ h5; omega
        · omega
      · rcases fdO _ h4 with h5 | h5
        · have := fdL _ h5; omega
        · omega
  · show A2 _ (insAt S.d (rk (S.d.map rId) it.id) (it.id, (k : Int), ())) _
    rw [q.ids]
    refine A2.ins (q1.ent.imp fun x y hx hy r => ?_) ?_ _
    · obtain ⟨r1, r2, k', v', r3, r4, r5, r6⟩ := r
      obtain ⟨_, hs⟩ := hold k' _ r4 rfl
      refine ⟨r1, r2, k', v', r3, hs, row_keep r5 fun a ha => ?_, fun a ha => .inl (r6 a ha)⟩
      obtain ⟨v1, v2, v3, v4⟩ := q.vs _ (r6 a ha)
      exact stay _ (by omega) v3 v4
    · refine ⟨rfl, hok, k, v, rfl, hk, row_keep ov.row fun a ha => ?_, fun a ha => .inr ⟨a, ha, rfl⟩⟩
      obtain ⟨v1, v2⟩ := hvb a ha
      exact stay _ v2 (fun h4 => by have := faL _ h4; omega) fun h4 => by have := fdL _ h4; omega
  · refine nodup_ins rSl q.inj fun hm => ?_
    obtain ⟨x, hx, e⟩ := List.mem_map.1 hm
    obtain ⟨i, hi⟩ := List.getElem?_of_mem hx
    have hil := (List.getElem?_eq_some_iff.1 hi).1
    have hit : its[i]? = some (its[i]'(by rw [← q.len]; exact hil)) := List.getElem?_eq_getElem _
    obtain ⟨_, _, k', v', r3, r4, _⟩ := q.ent.2 i x _ hi hit
    have : k' = k := by have e : rSl x = (k : Int) := e; omega
    exact (hold k' _ r4 rfl).1 this
  · show slots'.length = (insAt S.d _ _).length + F'.length
    have hrk := rk_le (S.d.map rId) it.id
    rw [List.length_map] at hrk
    rw [insAt_len _ hrk]; exact hcnt
  · intro b hb hn
    rw [stay b (by omega) (fun h4 => hn (.inr (.inl h4))) (fun h4 => hn (.inr (.inr (.inl h4)))), x1.get b hb]
  · rintro b (hb | hb | hb | hb | ⟨a, ha, rfl⟩)
    · exact .inl (.inl hb)
    · rcases faO b hb with h4 | h4
      · exact .inl (.inr (.inl h4))
      · exact .inr (by omega)
    · rcases fdO b hb with h4 | h4
      · exact .inl (.inr (.inr (.inl h4)))
      · exact .inr (by omega)
    · exact .inl (.inr (.inr (.inr hb)))
    · exact .inr (hvb a ha).1
theorem s_Put {h : Hp} {p : Nat} {S : SP} {its : List It} (q : SW h p S its) (hl : (S.slots.length + 1) * 56 ≤ 140737488355328) {id tag : Int} {v : Sl} {str : ByteArray} {vec : List Int} (rv : V32 h v vec) (hok : vec.length * 4 ≤ 140737488355328) {K : Int → Hp → Prop}
    (h1 : ∀ S' h', id ∉ its.map (·.id) → SW h' p S' (insAt its (rk (its.map (·.id)) id) ⟨id, tag, vec, str⟩) → SGrow p S S' h h' → S'.slots.length ≤ S.slots.length + 1 → K 0 h') (h2 : ∀ h', id ∈ its.map (·.id) → Ext h h' → K 4 h') : C_store_Store_Put (some ⟨p, 0, none⟩) id tag v str h K := by
  have hcnt := q.cnt
  have hlen := q.len
  refine F_store_Store_Put_ok _ _ _ _ _ _ _ (push_to fun g1 b1 e1 z1 => let_to (cnd_no rfl ?_))
  have q1 := q.ext e1
  refine ldA_blk (s := .int .u64) (i := 0) (x := id) b1 rfl (s_Has q1 (by omega) fun g2 e2 => ?_)
  have x2 := e1.trans e2
  have q2 := q1.ext e2
  have b2 := b1.ext e2
  refine cnd_dec.2 ⟨fun hm => h2 g2 hm x2, fun hm => ⟨aL S.la S.l S.f, ?_⟩⟩
  have hpS : p ∉ aL S.la S.l S.f := fun hh => q.pa (aL_mem.1 hh)
  have hxS : h.size ∉ aL S.la S.l S.f := fun hh => by have := q.A.lt _ (aL_mem.1 hh); omega
  refine ⟨hpS, q2.ldd ⟨hxS, ldA_blk (s := .int .u64) (i := 0) (x := id) b2 rfl ⟨hpS, q2.ldl ⟨hxS, ?_⟩⟩⟩⟩
  refine ldA_blk (s := .int .i64) (i := 1) (x := tag) b2 rfl (ldA_blk (s := .sl) (i := 2) (x := v) b2 rfl (ldA_blk (s := .str) (i := 3) (x := str) b2 rfl ?_))
  refine c_Clone (rv.ext x2) hok fun w g3 o3 e3 => ⟨ext_extS e3, ?_⟩
  have q3 := q2.ext e3
  have hids : id ∉ S.d.map rId := by rw [q.ids]; exact hm
  have hz2 := x2.size
  have hz3 := e3.size
  refine a_Put q3.A hl (by omega) (fun x hx => ?_) (fun l' f' g4 hF0 qa ga => ⟨ga.extS, ?_⟩) fun F0 k l' f' g4 hFe hkd qa ga => ⟨ga.extS, ?_⟩
  · obtain ⟨k, hk, y, hy, _⟩ := q.free x hx
    exact ⟨k, hk, (List.getElem?_eq_some_iff.1 hy).1⟩
  · have qd4 : DW g4 S.da S.ds S.d := q3.D.fpk fun b hb => ga.get b (q3.D.fplt b hb) fun h4 => q.ad b h4 hb
    refine d_Put qd4 (by omega) (fun ds' g5 _ qd gd => ?_) fun g5 e5 hin => (hids hin).elim
    have hold : ∀ (j : Nat) y, S.slots[j]? = some y → sU y = true → j ≠ S.slots.length ∧ (S.slots ++ [(true, tag, w, str, ())])[j]? = some y := fun j y hj _ => by
      have := (List.getElem?_eq_some_iff.1 hj).1
      exact ⟨by omega, by rw [List.getElem?_append_left this]; exact hj⟩
    have hkn : ∀ y, S.slots[S.slots.length]? = some y → sU y = false := fun y hy => by
      have := (List.getElem?_eq_some_iff.1 hy).1
      omega
    obtain ⟨S', w1, w2, w3⟩ := put_end (it := ⟨id, tag, vec, str⟩) (k := S.slots.length) q (x2.trans e3) hok (o3.weaken hz2) qa ga hids qd gd (by simp) hold hkn (fun x hx => by cases hx) List.nodup_nil (by rw [hF0] at hcnt; simp at hcnt ⊢; omega)
    exact h1 S' g5 hm w1 w2 (by rw [w3]; simp)
  · have qd4 : DW g4 S.da S.ds S.d := q3.D.fpk fun b hb => ga.get b (q3.D.fplt b hb) fun h4 => q.ad b h4 hb
    refine d_Put qd4 (by omega) (fun ds' g5 _ qd gd => ?_) fun g5 e5 hin => (hids hin).elim
    have hun : ∀ y, S.slots[k]? = some y → sU y = false := by
      intro y hy
      obtain ⟨k', hk', y', hy', hu⟩ := q.free (k : Int) (by rw [hFe]; simp)
      have : k' = k := by omega
      subst this
      rw [hy] at hy'; cases hy'; exact hu
    have hnd := q.fnd
    rw [hFe] at hnd
    obtain ⟨nd1, nd2, nd3⟩ := List.nodup_append.1 hnd
    have hold : ∀ (j : Nat) y, S.slots[j]? = some y → sU y = true → j ≠ k ∧ (S.slots.set k (true, tag, w, str, ()))[j]? = some y := fun j y hj hu => by
      have hjk : j ≠ k := fun e => by subst e; rw [hun y hj] at hu; cases hu
      exact ⟨hjk, by rw [List.getElem?_set_ne (fun e => hjk e.symm)]; exact hj⟩
    have hfr : ∀ x ∈ F0, ∃ k' : Nat, x = k' ∧ ∃ y, (S.slots.set k (true, tag, w, str, ()))[k']? = some y ∧ sU y = false := fun x hx => by
      obtain ⟨k', hk', y, hy, hu⟩ := q.free x (by rw [hFe]; exact List.mem_append_left _ hx)
      have hne : k ≠ k' := fun e => by subst e; exact nd3 x hx (k : Int) (by simp) hk'
      exact ⟨k', hk', y, by rw [List.getElem?_set_ne hne]; exact hy, hu⟩
    obtain ⟨S', w1, w2, w3⟩ := put_end (it := ⟨id, tag, vec, str⟩) (k := k) q (x2.trans e3) hok (o3.weaken hz2) qa ga hids qd gd (List.getElem?_set_self hkd) hold hun hfr nd1 (by rw [List.length_set]; rw [hFe] at hcnt; simp at hcnt; omega)
    exact h1 S' g5 hm w1 w2 (by rw [w3]; simp)
theorem s_Cut {h : Hp} {p : Nat} {S : SP} {its : List It} (q : SW h p S its) (hl : S.slots.length * 8 ≤ 140737488355328) {id : Int} {K : Int → Hp → Prop}
    (h1 : ∀ S' h', id ∈ its.map (·.id) → SW h' p S' (its.take (rk (its.map (·.id)) id) ++ its.drop (rk (its.map (·.id)) id + 1)) → SGrow p S S' h h' → S'.slots.length ≤ S.slots.length → K 0 h') (h2 : ∀ h', id ∉ its.map (·.id) → Ext h h' → K 5 h') : C_store_Store_Cut (some ⟨p, 0, none⟩) id h K := by
  have hcnt := q.cnt
  have hlen := q.len
  refine F_store_Store_Cut_ok _ _ _ _ (cnd_no rfl (q.ldd (d_Find q.D (by omega) (fun x g2 e2 hx hid => cnd_no rfl ?_) fun g2 e2 hn => cnd_yes rfl (h2 g2 (by rw [← q.ids]; exact hn) e2))))
  have q2 := q.ext e2
  have hz2 := e2.size
  obtain ⟨i, hi⟩ := List.getElem?_of_mem hx
  have hil := (List.getElem?_eq_some_iff.1 hi).1
  have hit : its[i]? = some (its[i]'(by omega)) := List.getElem?_eq_getElem _
  obtain ⟨_, _, k, v, r3, r4, _, _⟩ := q.ent.2 i x _ hi hit
  have hm : id ∈ S.d.map rId := hid ▸ List.mem_map.2 ⟨x, hx, rfl⟩
  have hrk := (rk_mem q.D.ris).1 hm
  have hri : (S.d.map rId)[i]? = some id := by rw [List.getElem?_map, hi, ← hid]; rfl
  have hie : rk (S.d.map rId) id = i := q.D.ris.inj hrk hri
  have hF1 : 1 ≤ S.d.length := by omega
  refine q2.ldl (a_Cut q2.A (by omega) r4 rfl r3 fun l' f' g3 qa ga => ?_)
  have hz3 := ga.size
  have qd3 : DW g3 S.da S.ds S.d := q2.D.fpk fun b hb => ga.get b (q2.D.fplt b hb) fun h4 => q.ad b h4 hb
  have faO : ∀ b, afp S.la l' f' b → S.fa b ∨ g2.size ≤ b := fun b hb => afp_nw ga.nl ga.nf hb
  have b3 : Blk g3 p #[.pointer (some ⟨S.la, 0, none⟩), .pointer (some ⟨S.da, 0, none⟩)] := by
    obtain ⟨e, hb⟩ := q2.b
    exact ⟨e, by rw [ga.get p q2.b.lt q.pa]; exact hb⟩
  refine ldA_blk (s := .ptr) (i := 1) (x := some ⟨S.da, 0, none⟩) b3 rfl (d_Cut qd3 (by omega) (fun ds' g4 _ qd gd => ?_) fun g4 e4 hn => (hn hm).elim)
  have hz4 := gd.1.1
  have fdO : ∀ b, dfp S.da ds' b → S.fd b ∨ g3.size ≤ b := fun b hb => dfp_nw gd.2 hb
  have faL := q.A.lt
  have fdL := q.D.fplt
  have faL2 := qa.lt
  have hpb := q.b.lt
  have stay : ∀ b, b < h.size → ¬ S.fa b → ¬ S.fd b → g4[b]? = h[b]? := fun b hb h4 h5 => by rw [gd.get (by omega) h5, ga.get b (by omega) h4, e2.get b hb]
  rw [hie] at qd
  have hperm : S.d.Perm (x :: (S.d.take i ++ S.d.drop (i + 1))) := cut_perm hi
  have hinj : ((x :: (S.d.take i ++ S.d.drop (i + 1))).map rSl).Nodup := (hperm.map rSl).nodup_iff.1 q.inj
  rw [List.map_cons] at hinj
  obtain ⟨hxn, hnd⟩ := List.nodup_cons.1 hinj
  refine h1 ⟨S.la, S.da, l', f', ds', S.slots.set k (false, 0, ⟨none, 0, 0⟩, ByteArray.mk #[], ()), S.F ++ [(k : Int)], S.d.take i ++ S.d.drop (i + 1), S.vb⟩ g4 (by rw [← q.ids]; exact hm) ⟨?_, ?_, qd, ?_, ?_, ?_, ?_, ?_, hnd, ?_, ?_, ?_⟩ ⟨by omega, ?_, ?_⟩ (by simp)
  · obtain ⟨e, hb⟩ := q.b
    exact ⟨e, by rw [stay p (by omega) q.pa q.pd]; exact hb⟩
  · refine qa.keep fun b hb => gd.get (faL2 b hb) fun hd => ?_
    rcases faO b hb with h4 | h4
    · exact q.ad b h4 hd
    · have := fdL b hd; omega
  · intro hp
    rcases faO p hp with h4 | h4
    · exact q.pa h4
    · omega
  · intro hp
    rcases fdO p hp with h4 | h4
    · exact q.pd h4
    · omega
  · intro b hb hd
    have := faL2 b hb
    rcases faO b hb with h4 | h4
    · rcases fdO b hd with h5 | h5
      · exact q.ad b h4 h5
      · omega
    · rcases fdO b hd with h5 | h5
      · have := fdL b h5; omega
      · omega
  · intro b hb
    obtain ⟨v1, v2, v3, v4⟩ := q.vs b hb
    refine ⟨by omega, v2, fun h4 => ?_, fun h4 => ?_⟩
    · rcases faO b h4 with h5 | h5
      · exact v3 h5
      · omega
    · rcases fdO b h4 with h5 | h5
      · exact v4 h5
      · omega
  · show A2 _ (S.d.take i ++ S.d.drop (i + 1)) _
    rw [← q.ids, hie]
    refine (q.ent.cut i).imp fun y z hy _ r => ?_
    obtain ⟨s1, s2, k', v', s3, s4, s5, s6⟩ := r
    have hne : k ≠ k' := fun e => by
      subst e
      exact hxn (List.mem_map.2 ⟨y, hy, by rw [s3, r3]⟩)
    refine ⟨s1, s2, k', v', s3, by rw [List.getElem?_set_ne hne]; exact s4, row_keep s5 fun a ha => ?_, s6⟩
    obtain ⟨v1, v2, v3, v4⟩ := q.vs _ (s6 a ha)
    exact stay _ v1 v3 v4
  · intro y hy
    rcases List.mem_append.1 hy with hy | hy
    · obtain ⟨k', hk', z, hz, hu⟩ := q.free y hy
      have hne : k ≠ k' := fun e => by
        subst e; rw [r4] at hz; cases hz; cases hu
      exact ⟨k', hk', z, by rw [List.getElem?_set_ne hne]; exact hz, hu⟩
    · obtain rfl := List.mem_singleton.1 hy
      exact ⟨k, rfl, _, List.getElem?_set_self (List.getElem?_eq_some_iff.1 r4).1, rfl⟩
  · refine List.nodup_append.2 ⟨q.fnd, by simp, fun a ha b hb e => ?_⟩
    obtain rfl := List.mem_singleton.1 hb
    subst e
    obtain ⟨k', hk', z, hz, hu⟩ := q.free _ ha
    have : k' = k := by omega
    subst this
    rw [r4] at hz; cases hz; cases hu
  · have := hperm.length_eq
    simp only [List.length_cons] at this
    simp only [List.length_set, List.length_append, List.length_cons, List.length_nil]
    rw [List.length_append] at this
    omega
  · intro b hb hn
    exact stay b hb (fun h4 => hn (.inr (.inl h4))) fun h4 => hn (.inr (.inr (.inl h4)))
  · rintro b (hb | hb | hb | hb)
    · exact .inl (.inl hb)
    · rcases faO b hb with h4 | h4
      · exact .inl (.inr (.inl h4))
      · exact .inr (by omega)
    · rcases fdO b hb with h4 | h4
      · exact .inl (.inr (.inr (.inl h4)))
      · exact .inr (by omega)
    · exact .inl (.inr (.inr (.inr hb)))
end Go.Proofs.YthnkmmnipihkeaaF
